import Derived.Test.YtobmoajkfbigkaaGreatKf
import Derived.Test.YtobmoajkfbigkaaGreatKd
import Derived.Test.YtobmoajkfbigkaaGreatKe
set_option linter.unusedSimpArgs false
set_option linter.unusedVariables false
set_option maxRecDepth 100000
set_option linter.defProp false
set_option maxHeartbeats 400000
set_option maxHeartbeats 4000000
set_option maxHeartbeats 2000000
namespace Go.AL
open Go.Proofs
def eU (t : Ty) : D := .int .u8 (t.val : Int)
theorem fr_0 (f : Fr) : (eFr f)[0]? = some (.int .i64 f.loc) := rfl
theorem fr_1 (f : Fr) : (eFr f)[1]? = some (.int .i64 f.h) := rfl
theorem fr_at (f : Fr) (i : Nat) (h : i < 24) : (eFr f)[2 + i]? = some (.int .u8 (f.sl[i].val : Int)) := by
  rw [show 2 + i = i + 1 + 1 by omega]
  simp only [eFr, List.getElem?_cons_succ, List.getElem?_map]
  rw [List.getElem?_eq_getElem (by simpa using h)]
  simp
theorem eqAll_from {m n : Nat} (xs ys : List Ty) (hx : xs.length = n) (hy : ys.length = n) : ∀ (k s : Nat), s + k = n →
    eqAll Tryz.prog (eqV Tryz.prog (m + 1)) (xs.map eU) (ys.map eU) ((List.range' s k).map fun i => (81, i * 1)) = some (decide (xs.drop s = ys.drop s))
  | 0, s, h => by
    rw [List.drop_eq_nil_of_le (by omega), List.drop_eq_nil_of_le (by omega)]
    rfl
  | k + 1, s, h => by
    have h1 : s < xs.length := by omega
    have h2 : s < ys.length := by omega
    rw [List.range'_succ, List.map_cons, eqAll, Nat.mul_one]
    have p1 : partD Tryz.prog 81 (xs.map eU) s = some (eU xs[s]) := by simp [partD, Tryz.agg81, Tryz.sz81, h1]
    have p2 : partD Tryz.prog 81 (ys.map eU) s = some (eU ys[s]) := by simp [partD, Tryz.agg81, Tryz.sz81, h2]
    rw [p1, p2, eqAll_from xs ys hx hy k (s + 1) (by omega), List.drop_eq_getElem_cons h1, List.drop_eq_getElem_cons h2]
    simp only [eU, eqV_int Tryz.underlying81]
    congr 1
    rw [Bool.eq_iff_iff]
    simp only [Bool.and_eq_true, decide_eq_true_eq, List.cons.injEq, eT_eq]
theorem eq_fr (f g : Fr) : eqV Tryz.prog 10 84 (.agg (eFr f)) (.agg (eFr g)) = some (decide (f = g)) := by
  have h1 : Tryz.prog.stoodInHeld 84 = false := by kernel_rfl
  have h2 : (Tryz.prog.info? 81).isSome = true := by kernel_rfl
  have h3 : Tryz.prog.cellsOf 81 = 1 := by kernel_rfl
  have t : ∀ f : Fr, ((eFr f).drop 2).take 24 = f.sl.toList.map eU := fun f => by
    rw [List.take_of_length_le (by simp [eFr])]
    rfl
  rw [show (10 : Nat) = 8 + 1 + 1 from rfl, eqV_struct Tryz.underlying84 h1 rfl]
  simp only [fsParts, List.map_cons, List.map_nil, eqAll]
  simp -implicitDefEqProofs only [go_sem, fr_0, fr_1, t, za6, eqV_int Tryz.underlying3]
  rw [eqV_array Tryz.underlying82 h2, h3, List.range_eq_range', eqAll_from f.sl.toList g.sl.toList (by simp) (by simp) 24 0 rfl]
  obtain ⟨a, b, c⟩ := f
  obtain ⟨a', b', c'⟩ := g
  simp only [List.drop_zero, Bool.and_true]
  congr 1
  rw [Bool.eq_iff_iff]
  simp [Fr.mk.injEq, Vector.toList_inj]
def shapedB (f : Fr) : Bool := decide (0 ≤ f.loc ∧ f.loc ≤ 16 ∧ 0 ≤ f.h ∧ f.h ≤ 24 - f.loc)
theorem shaped123 (f : Fr) : zf9 Tryz.prog 137 [.agg (eFr f)] (.bool (shapedB f)) := by
  refine F137.pcall' rfl fun T hT => ?_
  simp -implicitDefEqProofs only [go_sem, c137, hT, za6]
  refine fun b => ?_
  simp -implicitDefEqProofs only [go_sem, mmB, hT, za6, fr_0, fr_1, gdD]
  refine zc2 ?_
  rw [Bool.eq_iff_iff]
  simp only [shapedB, Bool.and_eq_true, decide_eq_true_eq, and_assoc]
  constructor
  · rintro ⟨h1, h2, h3, h4⟩
    rw [zb7 (by omega) (by omega)] at h4
    exact ⟨h1, h2, h3, h4⟩
  · rintro ⟨h1, h2, h3, h4⟩
    rw [zb7 (by omega) (by omega)]
    exact ⟨h1, h2, h3, h4⟩
theorem refShape86 (f : Fr) : zf9 Tryz.prog 102 [.agg (eFr f)] (.bool (shapedB f)) := by
  refine F102.pcall' rfl fun T hT => ?_
  simp -implicitDefEqProofs only [go_sem, c102, hT, za6]
  refine fun b => ?_
  simp -implicitDefEqProofs only [go_sem, mmB, hT, za6, fr_0, fr_1, gdD]
  refine zc2 ?_
  rw [Bool.eq_iff_iff]
  simp only [shapedB, Bool.and_eq_true, decide_eq_true_eq, and_assoc]
  constructor
  · rintro ⟨h1, h2, h3, h4, h5⟩
    rw [zb7 (by omega) (by omega)] at h5
    exact ⟨h1, h2, h3, by omega⟩
  · rintro ⟨h1, h2, h3, h4⟩
    rw [zb7 (by omega) (by omega)]
    exact ⟨h1, h2, h3, by omega, by omega⟩
def bareF (f : Fr) : Fr := ⟨f.loc, f.h, Vector.ofFn fun i => if (i.val : Int) < f.loc + f.h then f.sl[i.val] else 0⟩
theorem fr_tail (f : Fr) : (eFr f).drop 2 = f.sl.toList.map eU := rfl
theorem map24 (f : Fr) : List.take 24 (List.map eU f.sl.toList) = List.map eU f.sl.toList := List.take_of_length_le (by simp)
theorem len24 (f : Fr) : (List.map eU f.sl.toList).length = 24 := by simp
theorem bare_list (f : Fr) {k : Nat} (hk : f.loc + f.h = k) (h24 : k ≤ 24) :
    List.take (min 24 (k - 0)) (List.map eU f.sl.toList) ++ List.drop (2 + (List.take (min 24 (k - 0)) (List.map eU f.sl.toList)).length) (D.int .i64 f.loc :: D.int .i64 f.h :: List.replicate 24 (D.int .u8 0)) = List.map eU (bareF f).sl.toList := by
  have h1 : min 24 (k - 0) = k := by omega
  have h2 : (List.take k (List.map eU f.sl.toList)).length = k := by simp; omega
  rw [h1, h2, show 2 + k = k + 1 + 1 by omega, List.drop_succ_cons, List.drop_succ_cons, List.drop_replicate]
  apply List.ext_getElem
  · simp; omega
  · intro i hi hi'
    have hi24 : i < 24 := by simpa using hi'
    by_cases hik : i < k
    · rw [List.getElem_append_left (by rw [h2]; exact hik)]
      simp [bareF, eU, show (i : Int) < f.loc + f.h by omega]
    · rw [List.getElem_append_right (by rw [h2]; omega)]
      simp [bareF, eU, show ¬ (i : Int) < f.loc + f.h by omega]
theorem fr_eq (g : Fr) : eFr g = D.int .i64 g.loc :: D.int .i64 g.h :: List.map eU g.sl.toList := rfl
theorem bare_loc (f : Fr) : (bareF f).loc = f.loc := by unfold bareF; rfl
theorem bare_h (f : Fr) : (bareF f).h = f.h := by unfold bareF; rfl
theorem fr_bare (f : Fr) : (D.int .i64 f.loc :: D.int .i64 f.h :: List.map eU (bareF f).sl.toList) = eFr (bareF f) := by
  rw [fr_eq (bareF f), bare_loc, bare_h]
theorem bare124 (f : Fr) (hs : shapedB f = true) : zf9 Tryz.prog 138 [.agg (eFr f)] (.agg (eFr (bareF f))) := by
  simp only [shapedB, decide_eq_true_eq] at hs
  obtain ⟨k, hk⟩ : ∃ k : Nat, f.loc + f.h = k := ⟨(f.loc + f.h).toNat, by omega⟩
  have hw : IntKind.wrap .i64 (f.loc + f.h) = (k : Int) := by rw [zb7 (by omega) (by omega), hk]
  refine F138.pcall' rfl fun T hT => ?_
  simp -implicitDefEqProofs only [go_sem, c138, hT, za6]
  intro b1 b2 n1 n2
  simp -implicitDefEqProofs only [go_sem, hT, za6, fr_0, fr_1, gdD, n1, n2]
  intro b3 m1 m2 m3 m4
  have key := bare_list f hk (by omega)
  simp only [List.replicate_succ, List.replicate_zero] at key
  simp -implicitDefEqProofs only [go_sem, hT, za6, fr_0, fr_1, gdD, n1, n2, m1, m2, m3, m4, za2, hw, fr_tail, key, map24, len24]
  refine ⟨by omega, by omega, by omega, by omega, ?_⟩
  rw [fr_bare]
  exact DLe.refl _
theorem fr_idx (f : Fr) {i : Nat} (h : i < 24) : (List.map eU f.sl.toList)[i]? = some (.int .u8 (f.sl[i].val : Int)) := by
  rw [List.getElem?_map, List.getElem?_eq_getElem (by simpa using h)]
  simp [eU]
theorem refBare151 (f : Fr) (hs : shapedB f = true) : zf9 Tryz.prog 218 [.agg (eFr f)] (.agg (eFr (bareF f))) := by
  simp only [shapedB, decide_eq_true_eq] at hs
  obtain ⟨k, hk⟩ : ∃ k : Nat, f.loc + f.h = k := ⟨(f.loc + f.h).toNat, by omega⟩
  have hw : IntKind.wrap .i64 (f.loc + f.h) = (k : Int) := by rw [zb7 (by omega) (by omega), hk]
  refine F218.pcall' rfl fun T hT => ?_
  simp -implicitDefEqProofs only [go_sem, c218, hT, za6]
  intro b1 b2 n1 n2
  simp -implicitDefEqProofs only [go_sem, hT, za6, fr_0, fr_1, gdD, n1, n2, hw]
  generalize hz : (D.int .i64 0 :: D.int .i64 0 :: _ : List D) = z0
  have hzd : z0.drop 26 = [] := by rw [← hz]; rfl
  have hz26 : z0.length = 26 := by rw [← hz]; rfl
  -- slots from k up to i are cleared
  let g : Nat → Fr := fun i => ⟨f.loc, f.h, Vector.ofFn fun j => if j.val < k ∨ i ≤ j.val then f.sl[j.val] else 0⟩
  have g0 : g k = f := by
    obtain ⟨a, b, c⟩ := f
    simp only [g, Fr.mk.injEq, true_and]
    apply Vector.ext
    intro j hj
    simp only [Vector.getElem_ofFn]
    rw [if_pos (by omega)]
  have gl : g 24 = bareF f := by
    simp only [g, bareF, Fr.mk.injEq, true_and]
    apply Vector.ext
    intro j hj
    simp only [Vector.getElem_ofFn]
    by_cases hjk : j < k
    · rw [if_pos (.inl hjk), if_pos (by omega)]
    · rw [if_neg (by omega), if_neg (by omega)]
  have gs : ∀ i (h24 : i < 24), k ≤ i → (⟨(g i).loc, (g i).h, (g i).sl.set i 0 h24⟩ : Fr) = g (i + 1) := by
    intro i h24 hi
    simp only [g, Fr.mk.injEq, true_and]
    apply Vector.ext
    intro j hj
    simp only [Vector.getElem_set, Vector.getElem_ofFn]
    split
    · rename_i he; subst he; rw [if_neg (by omega)]
    · rename_i he
      by_cases h1 : j < k ∨ i ≤ j
      · rw [if_pos h1, if_pos (by omega)]
      · rw [if_neg h1, if_neg (by omega)]
  clear_value g
  refine loopL F218 (fun i : Nat => [(1, .ptr b1 0), (2, .ptr b2 0), (3, .int .i64 i)]) (fun i => (({} : St).set b1 (eFr (g i))).set b2 z0) (fun i => k ≤ i ∧ i ≤ 24) (fun i => 24 - i) k ⟨Nat.le_refl _, by omega⟩ ?_ (by rw [g0]; exact St.le.refl _) ?_
  · simp -implicitDefEqProofs only [go_sem, hT]
  clear hT T
  rintro i ⟨hi, h24⟩ T hT
  by_cases h : i < 24
  · have h1 : ((i : Int) < 24) = True := by simp; omega
    have hset := fr_set (f := g i) (i := i) h (t := 0)
    have h00 : (((0 : Ty).val : Nat) : Int) = 0 := rfl
    rw [gs i h hi, h00] at hset
    simp -implicitDefEqProofs only [go_sem, hT, h1, za6, n1, n2, Nat.mul_one, hset]
    refine ⟨by omega, by omega, i + 1, ⟨by omega, by omega⟩, by omega, ?_, ?_⟩
    · rw [zb7 (by omega) (by omega)]; simp
    · rw [Go.AL.set_comm (σ := ({} : St).set b1 (eFr (g i))) (show b2 ≠ b1 from fun e => by simp_all), za2]
      exact St.le.refl _
  · have h1 : ((i : Int) < 24) = False := by simp; omega
    obtain rfl : i = 24 := by omega
    simp -implicitDefEqProofs only [go_sem, hT, h1, za6, n1, n2, za5, za7, hz26, hzd]
    rw [gl]
    exact DLe.refl _
def checkF (c : Nat) (f : Fr) : Nat := if shapedB f = false ∨ bareF f ≠ f then 32 else if (f.sl.toList.any fun t => !validN c t) = true then 22 else 0
theorem check81 (l : List Cl) (o : Own) (f : Fr) : zf9 Tryz.prog 96 [.slice o (rws eC l), .agg (eFr f)] (.int .i64 (checkF l.length f)) := by
  refine F96.pcall' rfl fun T hT => ?_
  simp -implicitDefEqProofs only [go_sem, c96, hT, za6]
  intro b3
  simp -implicitDefEqProofs only [go_sem, hT, za6, za5]
  refine ⟨by rintro b rfl; simp, za4 (shaped123 f) ?_⟩
  cases hs : shapedB f
  · simp -implicitDefEqProofs only [go_sem, hT]
    exact DLe.of_eq (by rw [checkF, if_pos (.inl hs)]; rfl)
  simp -implicitDefEqProofs only [go_sem, hT, za6, za5]
  refine za4 (bare124 f hs) ?_
  by_cases hb : bareF f = f
  case neg =>
    simp -implicitDefEqProofs only [go_sem, hT, za6, za5, eq_fr, hb]
    exact DLe.of_eq (by rw [checkF, if_pos (.inr hb)]; rfl)
  have hc : checkF l.length f = if (f.sl.toList.any fun t => !validN l.length t) = true then 22 else 0 := by
    rw [checkF, if_neg (by simp [hs, hb])]
  rw [hc, hb]
  have hl24 : f.sl.toList.length = 24 := by simp
  have hl24' : f.sl.size = 24 := by simp
  simp -implicitDefEqProofs only [go_sem, hT, za6, za5, eq_fr, decide_true, fr_tail, map24, hl24, len24, Nat.le_refl, List.length_map, Vector.length_toList]
  refine loopL F96 (fun i : Nat => [(0, .slice o (rws eC l)), (17, .agg (List.map eU f.sl.toList)), (18, .int .i64 i)]) (fun _ => {}) (fun i => i ≤ 24 ∧ ((f.sl.toList.take i).any fun t => !validN l.length t) = false) (fun i => 24 - i) 0 ⟨by omega, rfl⟩ ?_ (St.le.nil _) ?_
  · simp -implicitDefEqProofs only [go_sem, hT, Int.ofNat_zero]
  clear hT T
  rintro i ⟨hi, hok⟩ T hT
  by_cases h : i < 24
  · have h1 : ((i : Int) < 24) = True := by simp; omega
    have hx := fr_idx f h
    have hl : i < f.sl.toList.length := by simpa using h
    have htake : f.sl.toList.take (i + 1) = f.sl.toList.take i ++ [f.sl[i]] := by rw [List.take_succ_eq_append_getElem hl]; simp
    have hin : f.sl[i] ∈ f.sl.toList := by simp
    generalize f.sl[i] = t at *
    simp -implicitDefEqProofs only [go_sem, hT, h1, hx, Nat.mul_one]
    refine ⟨by omega, za4 (valid105 l o t) ?_⟩
    cases hv : validN l.length t
    · simp -implicitDefEqProofs only [go_sem, hT]
      rw [if_pos (List.any_eq_true.2 ⟨t, hin, by simp [hv]⟩)]
      exact DLe.of_eq rfl
    · simp -implicitDefEqProofs only [go_sem, hT]
      refine ⟨i + 1, ⟨by omega, by rw [htake, List.any_append, hok]; simp [hv]⟩, by omega, ?_, St.le.refl _⟩
      rw [zb7 (by omega) (by omega)]; simp
  · have h1 : ((i : Int) < 24) = False := by simp; omega
    rw [List.take_of_length_le (by simp; omega)] at hok
    simp -implicitDefEqProofs only [go_sem, hT, h1]
    rw [if_neg (by simp [hok])]
    exact DLe.of_eq rfl
open Go.Proofs
@[irreducible] def zFr : List D := [D.int .i64 0, D.int .i64 0, D.int .u8 0, D.int .u8 0, D.int .u8 0, D.int .u8 0, D.int .u8 0, D.int .u8 0, D.int .u8 0, D.int .u8 0, D.int .u8 0, D.int .u8 0, D.int .u8 0, D.int .u8 0, D.int .u8 0, D.int .u8 0, D.int .u8 0, D.int .u8 0, D.int .u8 0, D.int .u8 0, D.int .u8 0, D.int .u8 0, D.int .u8 0, D.int .u8 0, D.int .u8 0, D.int .u8 0]
theorem ze4 : [D.int .i64 0, D.int .i64 0, D.int .u8 0, D.int .u8 0, D.int .u8 0, D.int .u8 0, D.int .u8 0, D.int .u8 0, D.int .u8 0, D.int .u8 0, D.int .u8 0, D.int .u8 0, D.int .u8 0, D.int .u8 0, D.int .u8 0, D.int .u8 0, D.int .u8 0, D.int .u8 0, D.int .u8 0, D.int .u8 0, D.int .u8 0, D.int .u8 0, D.int .u8 0, D.int .u8 0, D.int .u8 0, D.int .u8 0] = zFr := by rw [zFr]
theorem fr_fr0 : eFr (fr0 0) = zFr := by rw [zFr]; rfl
theorem ze6 : zFr.length = 26 := by rw [zFr]; rfl
theorem ze2 : zFr.take 26 = zFr := by rw [zFr]; rfl
theorem zc5 : zFr.drop 26 = [] := by rw [zFr]; rfl
def slAt (f : Fr) (i : Nat) : Ty := (f.sl.toList[i]?).getD 0
theorem slAt_lt (f : Fr) {i : Nat} (h : i < 24) : slAt f i = f.sl[i] := by
  rw [slAt, List.getElem?_eq_getElem (by simpa using h)]
  simp
theorem fr_slAt (f : Fr) {i : Nat} (h : i < 24) : (eFr f)[2 + i]? = some (.int .u8 ((slAt f i).val : Int)) := by rw [fr_at f i h, slAt_lt f h]
theorem shaped_of {f : Fr} (h : shapedB f = true) : 0 ≤ f.loc ∧ f.loc ≤ 16 ∧ 0 ≤ f.h ∧ f.loc + f.h ≤ 24 := by
  simp only [shapedB, decide_eq_true_eq] at h
  omega
def bYdaV0 := aI @ze4 (aI @ze6 (aI @ze2 (aI @zc5 @za6)))
def bYdaV1 := aI @ze4 (aI @ze6 (aI @ze2 (aI @zc5 (aI @za6 @za5))))
theorem top127 (f : Fr) (hs : shapedB f = true) (n : Nat) (hn : (n : Int) < f.h) : zf9 Tryz.prog 210 [.agg (eFr f), .int .i64 n] (.tup [.int .u8 (slAt f (f.loc + f.h - 1 - n).toNat).val, .int .i64 0]) := by
  obtain ⟨s1, s2, s3, s4⟩ := shaped_of hs
  have w1 : IntKind.wrap .i64 (f.loc + f.h) = f.loc + f.h := zb7 (by omega) (by omega)
  have w2 : IntKind.wrap .i64 (f.loc + f.h - 1) = f.loc + f.h - 1 := zb7 (by omega) (by omega)
  have w3 : IntKind.wrap .i64 (f.loc + f.h - 1 - n) = f.loc + f.h - 1 - n := zb7 (by omega) (by omega)
  have g1 : ((n : Int) < 0) = False := by simp
  have g2 : (f.h ≤ (n : Int)) = False := by simp; omega
  have hx := fr_slAt f (show (f.loc + f.h - 1 - n).toNat < 24 by omega)
  refine F210.pcall' rfl fun T hT => ?_
  simp -implicitDefEqProofs only [go_sem, c210, hT, bYdaV0]
  intro b1
  simp -implicitDefEqProofs only [go_sem, hT, bYdaV1]
  refine za4 (shaped123 f) ?_
  simp -implicitDefEqProofs only [go_sem, ze4, ze6, ze2, zc5, hT, hs, za6, fr_0, fr_1, gdD, g1, g2, w1, w2, w3, hx, Nat.mul_one]
  omega
theorem load84 (f : Fr) (hs : shapedB f = true) (a : Int) (h0 : 0 ≤ a) (h1 : a < f.loc) : zf9 Tryz.prog 175 [.agg (eFr f), .int .i64 a] (.tup [.int .u8 (slAt f a.toNat).val, .int .i64 0]) := by
  obtain ⟨s1, s2, s3, s4⟩ := shaped_of hs
  have g1 : (decide (a < 0) || decide (f.loc ≤ a)) = false := by simp; omega
  have hx := fr_slAt f (show a.toNat < 24 by omega)
  refine F175.pcall' rfl fun T hT => ?_
  simp -implicitDefEqProofs only [go_sem, c175, hT, bYdaV0]
  intro b1
  simp -implicitDefEqProofs only [go_sem, hT, bYdaV1]
  refine za4 (shaped123 f) ?_
  simp -implicitDefEqProofs only [go_sem, mmB, ze4, ze6, ze2, zc5, hT, hs, za6, fr_0, fr_1, gdD, g1, hx, Nat.mul_one]
  omega
def popF (f : Fr) : Fr := bareF ⟨f.loc, f.h - 1, f.sl⟩
def topF (f : Fr) : Ty := slAt f (f.loc + f.h - 1).toNat
theorem fr_h (f : Fr) (n : Int) : List.take 1 (eFr f) ++ [D.int .i64 n] ++ List.drop 2 (eFr f) = eFr ⟨f.loc, n, f.sl⟩ := rfl
theorem pop_shape {f : Fr} (hs : shapedB f = true) (h0 : 0 < f.h) : shapedB ⟨f.loc, f.h - 1, f.sl⟩ = true := by
  have := shaped_of hs
  simp only [shapedB, decide_eq_true_eq]; omega
theorem pop129 (f : Fr) (hs : shapedB f = true) (h0 : 0 < f.h) : zf9 Tryz.prog 212 [.agg (eFr f)] (.tup [.agg (eFr (popF f)), .int .u8 (topF f).val, .int .i64 0]) := by
  obtain ⟨s1, s2, s3, s4⟩ := shaped_of hs
  have w1 : IntKind.wrap .i64 (f.h - 1) = f.h - 1 := zb7 (by omega) (by omega)
  have ht := top127 f hs 0 (by simpa using h0)
  rw [show f.loc + f.h - 1 - ((0 : Nat) : Int) = f.loc + f.h - 1 by omega] at ht
  refine F212.pcall' rfl fun T hT => ?_
  simp -implicitDefEqProofs only [go_sem, c212, hT, bYdaV0]
  intro b1 b2 n1 n2
  simp -implicitDefEqProofs only [go_sem, hT, n1, n2, bYdaV1]
  refine za4 ht ?_
  simp -implicitDefEqProofs only [go_sem, ze4, ze6, ze2, zc5, hT, za6, za5, n1, n2, fr_1, w1, fr_h, za2, gdD, za7, anD]
  refine za4 (bare124 _ (pop_shape hs h0)) ?_
  simp -implicitDefEqProofs only [go_sem, ze4, ze6, ze2, zc5, hT, za6, za5, n1, n2, za3, za2]
  exact DLe.refl _
theorem refPop118 (f : Fr) (hs : shapedB f = true) (h0 : 0 < f.h) : zf9 Tryz.prog 184 [.agg (eFr f)] (.tup [.agg (eFr (popF f)), .int .u8 (topF f).val, .int .i64 0]) := by
  obtain ⟨s1, s2, s3, s4⟩ := shaped_of hs
  have w1 : IntKind.wrap .i64 (f.h - 1) = f.h - 1 := zb7 (by omega) (by omega)
  have w2 : IntKind.wrap .i64 (f.loc + f.h) = f.loc + f.h := zb7 (by omega) (by omega)
  have w3 : IntKind.wrap .i64 (f.loc + f.h - 1) = f.loc + f.h - 1 := zb7 (by omega) (by omega)
  have hx := fr_slAt f (show (f.loc + f.h - 1).toNat < 24 by omega)
  have g1 : (f.h = 0) = False := by simp; omega
  refine F184.pcall' rfl fun T hT => ?_
  simp -implicitDefEqProofs only [go_sem, c184, hT, bYdaV0]
  intro b1 b2 n1 n2
  simp -implicitDefEqProofs only [go_sem, hT, n1, n2, bYdaV1]
  refine za4 (refShape86 f) ?_
  simp -implicitDefEqProofs only [go_sem, ze4, ze6, ze2, zc5, hT, hs, za6, za5, n1, n2, fr_0, fr_1, g1, w1, w2, w3, fr_h, za2, gdD, hx, Nat.mul_one, za7, anD]
  refine ⟨by omega, ?_⟩
  refine za4 (refBare151 _ (pop_shape hs h0)) ?_
  simp -implicitDefEqProofs only [go_sem, ze4, ze6, ze2, zc5, hT, za6, za5, n1, n2, za3, za2]
  exact DLe.refl _
theorem bare_shape {f : Fr} : shapedB (bareF f) = shapedB f := by simp only [shapedB, bare_loc, bare_h]
theorem bare_bare {f : Fr} : bareF (bareF f) = bareF f := by
  simp only [bareF, Fr.mk.injEq, true_and]
  apply Vector.ext
  intro j hj
  simp only [Vector.getElem_ofFn]
  split <;> rfl
def setF (f : Fr) (a : Int) (t : Ty) : Fr := ⟨f.loc, f.h, if h : a.toNat < 24 then f.sl.set a.toNat t h else f.sl⟩
theorem setF_loc {f : Fr} {a : Int} {t : Ty} : (setF f a t).loc = f.loc := by unfold setF; rfl
theorem setF_h {f : Fr} {a : Int} {t : Ty} : (setF f a t).h = f.h := by unfold setF; rfl
theorem fr_setF {f : Fr} {a : Int} (h0 : 0 ≤ a) (h : a < 24) {t : Ty} : (eFr f).take (2 + a.toNat) ++ [D.int .u8 (t.val : Int)] ++ (eFr f).drop (2 + a.toNat + 1) = eFr (setF f a t) := by
  rw [setF, dif_pos (show a.toNat < 24 by omega)]
  exact fr_set (by omega)
theorem store130 (f : Fr) (hs : shapedB f = true) (a : Int) (t : Ty) (h0 : 0 ≤ a) (h1 : a < f.loc) : zf9 Tryz.prog 213 [.agg (eFr f), .int .i64 a, .int .u8 t.val] (.tup [.agg (eFr (setF (bareF f) a t)), .int .i64 0]) := by
  obtain ⟨s1, s2, s3, s4⟩ := shaped_of hs
  have hst := fr_setF (f := bareF f) (t := t) h0 (by omega)
  refine F213.pcall' rfl fun T hT => ?_
  simp -implicitDefEqProofs only [go_sem, c213, hT, bYdaV0]
  intro b1 b2 n1 n2
  simp -implicitDefEqProofs only [go_sem, hT, n1, n2, bYdaV1]
  refine za4 (load84 f hs a h0 h1) ?_
  simp -implicitDefEqProofs only [go_sem, hT, n1, n2, bYdaV1]
  refine za4 (bare124 f hs) ?_
  simp -implicitDefEqProofs only [go_sem, ze4, ze6, ze2, zc5, hT, za6, za5, n1, n2, za2, za7, anD, hst, Nat.mul_one, za3, gdD]
  omega
def pushF (f : Fr) (t : Ty) : Fr × Nat := if f.loc + f.h = 24 then (fr0 0, 31) else (⟨f.loc, f.h + 1, (setF (bareF f) (f.loc + f.h) t).sl⟩, 0)
def bYdaV2 := aI @ze4 (aI @ze6 (aI @ze2 (aI @zc5 (aI @za6 (aI @za5 (aI @fr_0 (aI @fr_1 (aI @za3 (aI @za2 @gdD)))))))))
theorem push131 (f : Fr) (hs : shapedB f = true) (t : Ty) : zf9 Tryz.prog 214 [.agg (eFr f), .int .u8 t.val] (.tup [.agg (eFr (pushF f t).1), .int .i64 (pushF f t).2]) := by
  obtain ⟨s1, s2, s3, s4⟩ := shaped_of hs
  have w1 : IntKind.wrap .i64 (f.loc + f.h) = f.loc + f.h := zb7 (by omega) (by omega)
  have w2 : IntKind.wrap .i64 (f.h + 1) = f.h + 1 := zb7 (by omega) (by omega)
  refine F214.pcall' rfl fun T hT => ?_
  simp -implicitDefEqProofs only [go_sem, c214, hT, bYdaV0]
  intro b1 b2 n1 n2
  simp -implicitDefEqProofs only [go_sem, hT, n1, n2, bYdaV1]
  refine za4 (shaped123 f) ?_
  by_cases h24 : f.loc + f.h = 24
  · have h24' : (f.loc + f.h = 24) = True := by simp [h24]
    simp -implicitDefEqProofs only [go_sem, hT, hs, n1, n2, w1, h24', bYdaV2]
    rw [pushF, if_pos h24, fr_fr0]
    exact DLe.refl _
  simp -implicitDefEqProofs only [go_sem, hT, hs, n1, n2, w1, h24, bYdaV2]
  refine za4 (bare124 f hs) ?_
  have hst := fr_setF (f := bareF f) (a := f.loc + f.h) (t := t) (by omega) (by omega)
  simp -implicitDefEqProofs only [go_sem, ze4, ze6, ze2, zc5, hT, za6, za5, n1, n2, za2, za7, anD, fr_0, fr_1, bare_loc, bare_h, w1, hst, setF_loc, setF_h, w2, fr_h, Nat.mul_one, za3, gdD]
  refine ⟨by omega, by omega, ?_⟩
  rw [pushF, if_neg h24]
  exact DLe.refl _
theorem refPush119 (f : Fr) (hs : shapedB f = true) (t : Ty) : zf9 Tryz.prog 185 [.agg (eFr f), .int .u8 t.val] (.tup [.agg (eFr (pushF f t).1), .int .i64 (pushF f t).2]) := by
  obtain ⟨s1, s2, s3, s4⟩ := shaped_of hs
  have w1 : IntKind.wrap .i64 (f.loc + f.h) = f.loc + f.h := zb7 (by omega) (by omega)
  have w2 : IntKind.wrap .i64 (f.h + 1) = f.h + 1 := zb7 (by omega) (by omega)
  refine F185.pcall' rfl fun T hT => ?_
  simp -implicitDefEqProofs only [go_sem, c185, hT, bYdaV0]
  intro b1 b2 n1 n2
  simp -implicitDefEqProofs only [go_sem, hT, n1, n2, bYdaV1]
  refine za4 (refShape86 f) ?_
  by_cases h24 : f.loc + f.h = 24
  · have h24' : (f.loc + f.h = 24) = True := by simp [h24]
    simp -implicitDefEqProofs only [go_sem, hT, hs, n1, n2, w1, h24', bYdaV2]
    rw [pushF, if_pos h24, fr_fr0]
    exact DLe.refl _
  simp -implicitDefEqProofs only [go_sem, hT, hs, n1, n2, w1, h24, bYdaV2]
  refine za4 (refBare151 f hs) ?_
  have hst := fr_setF (f := bareF f) (a := f.loc + f.h) (t := t) (by omega) (by omega)
  simp -implicitDefEqProofs only [go_sem, ze4, ze6, ze2, zc5, hT, za6, za5, n1, n2, za2, za7, anD, fr_0, fr_1, bare_loc, bare_h, w1, hst, setF_loc, setF_h, w2, fr_h, Nat.mul_one, za3, gdD]
  refine ⟨by omega, by omega, ?_⟩
  rw [pushF, if_neg h24]
  exact DLe.refl _
open Go.Proofs
theorem upL_len (l : List Cl) : ∀ (n c : Nat), c ≤ n → (upL l c).length ≤ c + 1
  | 0, c, h => by
    unfold upL
    split
    · rw [dif_neg (by omega)]; simp
    · simp
  | n + 1, c, h => by
    unfold upL
    split
    · rename_i x hx
      split
      · rename_i hp
        have := upL_len l n x.parent.toNat (by omega)
        simp; omega
      · simp
    · simp
theorem upI_len {l : List Cl} {c : Int} : (upI l c).length ≤ l.length := by
  unfold upI
  split
  · by_cases h : c.toNat < l.length
    · have := upL_len l c.toNat c.toNat (Nat.le_refl _)
      omega
    · rw [upL, List.getElem?_eq_none (by omega)]; simp
  · simp
theorem upL_lt {l : List Cl} : ∀ (n c : Nat), c ≤ n → ∀ k ∈ upL l c, k < l.length
  | 0, c, h, k, hk => by
    unfold upL at hk
    split at hk
    · rename_i x hx
      rw [dif_neg (by omega)] at hk
      simp at hk; subst hk
      exact (List.getElem?_eq_some_iff.1 hx).1
    · cases hk
  | n + 1, c, h, k, hk => by
    unfold upL at hk
    split at hk
    · rename_i x hx
      simp only [List.mem_cons] at hk
      rcases hk with rfl | hk
      · exact (List.getElem?_eq_some_iff.1 hx).1
      · split at hk
        · rename_i hp; exact upL_lt n _ (by omega) k hk
        · cases hk
    · cases hk
theorem upI_lt {l : List Cl} {c : Int} {k : Nat} (h : k ∈ upI l c) : k < l.length := by
  unfold upI at h
  split at h
  · exact upL_lt _ _ (Nat.le_refl _) k h
  · cases h
def lnB (b5 : Nat) (a : List Nat × Option Nat) : St := ({} : St).set b5 [grD 1 a.2 (rws eI (toI a.1))]
def lnS (b5 : Nat) (a : List Nat × Option Nat) : St := grS 1 a.1.length a.2 (lnB b5 a)
def lnOk (b5 : Nat) (a : List Nat × Option Nat) : Prop := (a.2 = none → a.1.length = 0) ∧ ∀ b, a.2 = some b → b ≠ b5
section
variable {b5 : Nat} {a : List Nat × Option Nat}
theorem lnS_5 : (lnS b5 a).box b5 = some [grD 1 a.2 (rws eI (toI a.1))] := by simp [lnS, lnB, grS_boxa, St.set_box]
theorem lnB_n (h : lnOk b5 a) : grN a.2 (lnB b5 a) := fun b hb hin => by
  have h1 := h.2 b hb
  simp only [lnB, has_set, has_nil, or_false] at hin
  omega
theorem lnB_of {ob : Option Nat} (h : grN ob (lnB b5 a)) {L : List Nat} (h' : ob = none → L.length = 0) : lnOk b5 (L, ob) :=
  ⟨h', fun b hb e => h b hb (by simp [lnB, has_set, e])⟩
theorem lnS_more {σ' : St} {ob : Option Nat} {x : Nat} (hle : St.le (grS 1 (a.1.length + 1) ob (lnB b5 a)) σ') : St.le (lnS b5 (a.1 ++ [x], ob)) (σ'.set b5 [grD 1 ob (rws eI (toI a.1) ++ [[.int .i64 x]])]) := by
  have h := le_set (b := b5) (cs := [grD 1 ob (rws eI (toI (a.1 ++ [x])))]) hle
  rw [grS_set, lnB, za2] at h
  simp only [lnS, lnB, List.length_append, List.length_cons, List.length_nil, Nat.zero_add]
  rw [show rws eI (toI a.1) ++ [[D.int .i64 x]] = rws eI (toI (a.1 ++ [x])) by simp [rws, eI, toI]]
  exact h
end
theorem toI_len {L : List Nat} : (rws eI (toI L)).length = L.length := by simp [rws, toI]
theorem line204 (b5 c : Nat) (a : List Nat × Option Nat) (ha : lnOk b5 a) (hl : (a.1.length + 1) * 8 ≤ 140737488355328) :
    RCall Tryz.prog 248 [.int .i64 c, .ptr b5 0] (lnS b5 a) fun d s' => d = .bool true ∧ ∃ ob, s' = lnS b5 (a.1 ++ [c], ob) ∧ lnOk b5 (a.1 ++ [c], ob) := by
  refine F248.rcall rfl fun T hT => ?_
  simp -implicitDefEqProofs only [go_sem, c248, hT, lnS_5, frz]
  refine app_gr' Tryz.sli29 Tryz.sz3 Tryz.by3 Tryz.zero3 rfl (n := a.1.length) (m := 1) (base := lnB b5 a) toI_len rfl (St.le.refl _) (lnB_n ha) ha.1 (by simp) (by omega) fun o' σ' hbox hle hn hno => ?_
  simp -implicitDefEqProofs only [go_sem, hT, hbox, lnS_5]
  exact ⟨_, _, DLe.refl _, lnS_more hle, rfl, o', rfl, lnB_of hn (by simpa using hno)⟩
def lnStep (a : List Nat × Option Nat) (c : Nat) (b : Bool) (a' : List Nat × Option Nat) : Prop := b = true ∧ a'.1 = a.1 ++ [c]
theorem ln_runs : ∀ {L : List Nat} {a a' : List Nat × Option Nat}, Runs lnStep L a a' → a'.1 = a.1 ++ L
  | [], a, a', h => by simp only [Runs] at h; subst h; simp
  | c :: L, a, a'', ⟨b, a', ⟨hb, hs⟩, h⟩ => by
    rw [if_pos hb] at h
    rw [ln_runs h, hs]; simp
theorem fields189 (l : List Cl) (o : Own) (c : Int) (hl : l.length * 48 ≤ 140737488351232) (hf : (ze5 l (upI l c).reverse).length * 24 ≤ 140737488355328) :
    zf9 Tryz.prog 247 [.slice o (rws eC l), .int .i64 c] (.slice .no (rws eF (ze5 l (upI l c).reverse))) := by
  refine F247.pcall' rfl fun T hT => ?_
  simp -implicitDefEqProofs only [go_sem, c247, hT]
  intro b5
  have hul := upI_len (l := l) (c := c)
  refine callB_all (σ := lnS b5 ([], none)) (climb144' l o 248 [] [.ptr b5 0] (lnS b5) lnStep (fun a L => lnOk b5 a ∧ a.1.length + L.length ≤ l.length) (by omega) ?_ ([], none) c ?_) ?_
  · rintro a n rest hn ⟨ha, hlen⟩
    simp only [List.length_cons] at hlen
    refine (line204 b5 n a ha (by omega)).mono ?_
    rintro d s' ⟨rfl, ob, rfl, hok⟩
    exact ⟨true, _, rfl, rfl, ⟨rfl, rfl⟩, hok, by simp; omega⟩
  · exact ⟨⟨fun _ => rfl, fun b hb => by cases hb⟩, by simpa using hul⟩
  rintro d s' ⟨rfl, ⟨L, o1⟩, r, rfl, hruns, hok, _⟩
  have hL : L = upI l c := by simpa using ln_runs hruns
  subst hL
  have hlt : ∀ n ∈ upI l c, n < l.length := fun n hn => upI_lt hn
  generalize upI l c = L at *
  clear hruns
  have hlen : (toI L).length = L.length := by simp [toI]
  simp -implicitDefEqProofs only [go_sem, hT, lnS_5, hlen]
  refine loopL F247 (fun x : Nat × Option Nat => [(0, .slice o (rws eC l)), (5, .ptr b5 0), (7, .int .i64 ((x.1 : Int) - 1)), (6, grD 2 x.2 (rws eF (ze5 l (L.drop x.1).reverse)))]) (fun x => grS 2 (ze5 l (L.drop x.1).reverse).length x.2 (lnS b5 (L, o1)))
    (fun x => x.1 ≤ L.length ∧ (x.2 = none → (ze5 l (L.drop x.1).reverse).length = 0) ∧ grN x.2 (lnS b5 (L, o1))) (fun x => x.1) (L.length, none)
    ⟨Nat.le_refl _, fun _ => by simp [ze5], grN_none⟩ ?_ (St.le.refl _) ?_
  · simp -implicitDefEqProofs only [go_sem, hT, hlen]
    refine ⟨?_, ?_⟩
    · rw [zb7 (by omega) (by omega)]
    · simp [ze5, rws, grD]
  clear hT T
  rintro ⟨k, ob⟩ ⟨hk, hn, hgn⟩ T hT
  simp only at hk hn hgn hT ⊢
  by_cases h : k = 0
  · subst h
    have h1 : ((0 : Int) ≤ (0 : Nat) - 1) = False := by simp
    simp -implicitDefEqProofs only [go_sem, hT, h1]
    exact grD_le
  · obtain ⟨i, rfl⟩ : ∃ i, k = i + 1 := ⟨k - 1, by omega⟩
    have h1 : ((i + 1 : Nat) : Int) - 1 = i := by omega
    have h2 : ((0 : Int) ≤ i) = True := by simp
    have hi : i < L.length := by omega
    have hn' : L[i] < l.length := hlt _ (by simp)
    rw [h1] at hT
    simp -implicitDefEqProofs only [go_sem, hT, h2, grS_boxa, lnS_5, toI_at hi, hlen, rws_at hn', eC, eC_len]
    refine ⟨by omega, by omega, ?_⟩
    have hsnoc : ze5 l (L.drop i).reverse = ze5 l (L.drop (i + 1)).reverse ++ l[L[i]].fields := by
      rw [List.drop_eq_getElem_cons hi, List.reverse_cons, fieldsOn_snoc hn']
    have hle := fieldsOn_drop_le (l := l) (L := L) i
    have hsl := congrArg List.length hsnoc
    rw [List.length_append] at hsl
    refine app_gr' Tryz.sli152 Tryz.sz157 Tryz.by157 Tryz.zero157 rfl (n := (ze5 l (L.drop (i + 1)).reverse).length) (m := l[L[i]].fields.length) (by rw [za0]) (by rw [za0]) (St.le.refl _) hgn hn (by simp [rws, eF_len]) (by omega) fun o' σ' hbox hle' hgn' hno => ?_
    simp -implicitDefEqProofs only [go_sem, hT]
    refine ⟨(i, o'), ⟨by omega, by rw [hsl]; exact hno, hgn'⟩, by simp, ⟨?_, ?_⟩, by rw [hsl]; exact hle'⟩
    · rw [zb7 (by omega) (by omega)]
    · rw [hsnoc]; simp [rws]
open Go.Proofs
def isRefB (t : Ty) : Bool := decide (t.val = 3 ∨ t.val = 4 ∨ t.val = 5 ∨ 16 ≤ t.val)
theorem isRef163 (t : Ty) : zf9 Tryz.prog 227 [.int .u8 t.val] (.bool (isRefB t)) := by
  refine F227.pcall' rfl fun T hT => ?_
  simp -implicitDefEqProofs only [go_sem, mmB, c227, hT]
  exact zc2 (by rw [Bool.eq_iff_iff]; simp [isRefB]; omega)
theorem refIsRef120 (t : Ty) : zf9 Tryz.prog 132 [.int .u8 t.val] (.bool (isRefB t)) := by
  refine F132.pcall' rfl fun T hT => ?_
  simp -implicitDefEqProofs only [go_sem, mmB, c132, hT]
  exact zc2 (by rw [Bool.eq_iff_iff]; simp [isRefB]; omega)
def abB (b5 b7 : Nat) (y : Int) (a : Bool) : St := (({} : St).set b5 [.int .i64 y]).set b7 [.bool a]
theorem above205 (b5 b7 : Nat) (hne : b5 ≠ b7) (y : Int) (a : Bool) (c : Nat) :
    RCall Tryz.prog 241 [.int .i64 c, .ptr b5 0, .ptr b7 0] (abB b5 b7 y a) fun d s' => d = .bool (!decide ((c : Int) = y)) ∧ s' = abB b5 b7 y (decide ((c : Int) = y)) := by
  have h1 : ¬ b5 = b7 := hne
  have h2 : ¬ b7 = b5 := fun e => hne e.symm
  refine F241.rcall rfl fun T hT => ?_
  simp -implicitDefEqProofs only [go_sem, c241, hT, abB, h1, h2, za2]
  exact ⟨_, _, DLe.refl _, St.le.refl _, rfl, rfl⟩
def abStep (y : Int) (a : Bool) (c : Nat) (b : Bool) (a' : Bool) : Prop := a' = decide ((c : Int) = y) ∧ b = !a'
theorem ab_runs {y : Int} : ∀ {L : List Nat} {a a' : Bool}, Runs (abStep y) L a a' → a' = if L = [] then a else L.any fun c => decide ((c : Int) = y)
  | [], a, a', h => by simp only [Runs] at h; simp [h]
  | c :: L, a, a'', ⟨b, a', ⟨h1, h2⟩, h⟩ => by
    simp only [List.any_cons, reduceCtorEq, if_false]
    cases hc : decide ((c : Int) = y)
    · rw [hc] at h1
      subst h1; subst h2
      simp only [Bool.not_false, if_true] at h
      rw [ab_runs h]
      cases L <;> simp
    · rw [hc] at h1
      subst h1; subst h2
      simp only [Bool.not_true, Bool.false_eq_true, if_false] at h
      rw [h]; rfl
theorem above190 (l : List Cl) (o : Own) (c y : Int) (hl : l.length ≤ 140737488355328) : zf9 Tryz.prog 228 [.slice o (rws eC l), .int .i64 c, .int .i64 y] (.bool ((upI l c).any fun k => decide ((k : Int) = y))) := by
  refine F228.pcall' rfl fun T hT => ?_
  simp -implicitDefEqProofs only [go_sem, c228, hT]
  intro b5 b7 n1 n2
  simp -implicitDefEqProofs only [go_sem, hT, n1, n2, za2]
  refine callB_all (σ := abB b5 b7 y false) (climb144' l o 241 [] [.ptr b5 0, .ptr b7 0] (abB b5 b7 y) (abStep y) (fun _ _ => True) hl ?_ false c trivial) ?_
  · rintro a n rest hn _
    refine (above205 b5 b7 n2 y a n).mono ?_
    rintro d s' ⟨rfl, rfl⟩
    exact ⟨_, _, rfl, rfl, ⟨rfl, rfl⟩, trivial⟩
  rintro d s' ⟨rfl, a', r, rfl, hruns, _⟩
  have ha := ab_runs hruns
  simp -implicitDefEqProofs only [go_sem, hT, abB, n1, n2]
  refine zc2 ?_
  rw [ha]
  cases upI l c <;> simp
def subB (l : List Cl) (a b : Ty) : Bool :=
  if validN l.length a = false ∨ validN l.length b = false then false
  else if a = b ∨ b.val = 0 then true
  else if a.val = 3 ∨ b.val = 5 then isRefB a && isRefB b
  else decide (16 ≤ a.val ∧ 16 ≤ b.val) && (upI l ((a.val : Int) - 16)).any fun k => decide ((k : Int) = (b.val : Int) - 16)
theorem clsOf_val {n : Nat} {t : Ty} (h : validN n t = true) (h16 : 16 ≤ t.val) : clsOf n t = (t.val : Int) - 16 := by
  simp only [validN, decide_eq_true_eq] at h
  rw [clsOf, if_pos (by omega)]
theorem clsOf_no {n : Nat} {t : Ty} (h16 : ¬ 16 ≤ t.val) : clsOf n t = -1 := by rw [clsOf, if_neg (by omega)]
theorem sub164 (l : List Cl) (o : Own) (a b : Ty) (hl : l.length ≤ 140737488355328) : zf9 Tryz.prog 207 [.slice o (rws eC l), .int .u8 a.val, .int .u8 b.val] (.bool (subB l a b)) := by
  refine F207.pcall' rfl fun T hT => ?_
  simp -implicitDefEqProofs only [go_sem, c207, hT]
  refine za4 (valid105 l o a) ?_
  cases hva : validN l.length a
  · simp -implicitDefEqProofs only [go_sem, hT]
    exact zc2 (by simp [subB, hva])
  simp -implicitDefEqProofs only [go_sem, hT]
  refine za4 (valid105 l o b) ?_
  cases hvb : validN l.length b
  · simp -implicitDefEqProofs only [go_sem, hT]
    exact zc2 (by simp [subB, hvb])
  by_cases e1 : (a.val : Int) = b.val ∨ (b.val : Int) = 0
  · have hq : (decide ((a.val : Int) = b.val) || decide ((b.val : Int) = 0)) = true := by simpa using e1
    simp -implicitDefEqProofs only [go_sem, mmB, hT, hq]
    exact zc2 (by rw [subB, if_neg (by simp [hva, hvb]), if_pos (by rw [Fin.ext_iff]; omega)])
  have hq : (decide ((a.val : Int) = b.val) || decide ((b.val : Int) = 0)) = false := by simpa using e1
  have s1 : subB l a b = if a.val = 3 ∨ b.val = 5 then isRefB a && isRefB b else decide (16 ≤ a.val ∧ 16 ≤ b.val) && (upI l ((a.val : Int) - 16)).any fun k => decide ((k : Int) = (b.val : Int) - 16) := by
    rw [subB, if_neg (by simp [hva, hvb]), if_neg (by rw [Fin.ext_iff]; omega)]
  by_cases e2 : (a.val : Int) = 3 ∨ (b.val : Int) = 5
  · have hq2 : (decide ((a.val : Int) = 3) || decide ((b.val : Int) = 5)) = true := by simpa using e2
    rw [s1, if_pos (by omega)]
    simp -implicitDefEqProofs only [go_sem, mmB, hT, hq, hq2]
    refine za4 (isRef163 a) ?_
    cases hr : isRefB a
    · simp -implicitDefEqProofs only [go_sem, hT]
      exact zc2 (by simp)
    · simp -implicitDefEqProofs only [go_sem, hT]
      refine za4 (isRef163 b) ?_
      simp -implicitDefEqProofs only [go_sem, hT]
      exact zc2 (by simp)
  have hq2 : (decide ((a.val : Int) = 3) || decide ((b.val : Int) = 5)) = false := by simpa using e2
  rw [s1, if_neg (by omega)]
  simp -implicitDefEqProofs only [go_sem, mmB, hT, hq, hq2]
  refine za4 (class147 l o a) ?_
  simp -implicitDefEqProofs only [go_sem, mmB, hT]
  refine za4 (class147 l o b) ?_
  by_cases h16 : 16 ≤ a.val ∧ 16 ≤ b.val
  · have ca := clsOf_val hva h16.1
    have cb := clsOf_val hvb h16.2
    have g1 : ((0 : Int) ≤ (a.val : Int) - 16) = True := by simp; omega
    have g2 : ((0 : Int) ≤ (b.val : Int) - 16) = True := by simp; omega
    simp -implicitDefEqProofs only [go_sem, hT, ca, cb, g1, g2]
    refine za4 (above190 l o _ _ hl) ?_
    simp -implicitDefEqProofs only [go_sem, hT]
    exact zc2 (by simp [h16])
  · by_cases ha16 : 16 ≤ a.val
    · have ca := clsOf_val hva ha16
      have cb := clsOf_no (n := l.length) (show ¬ 16 ≤ b.val by omega)
      have g1 : ((0 : Int) ≤ (a.val : Int) - 16) = True := by simp; omega
      simp -implicitDefEqProofs only [go_sem, hT, ca, cb, g1]
      exact zc2 (by rw [decide_eq_false h16]; rfl)
    · have ca := clsOf_no (n := l.length) ha16
      simp -implicitDefEqProofs only [go_sem, hT, ca]
      exact zc2 (by rw [decide_eq_false h16]; rfl)
end Go.AL

namespace Go.AL
open Go.Proofs
structure Ins where
  pos : Int
  op : Ty
  a : Int
  b : Int
  deriving DecidableEq
def eIn (i : Ins) : List D := [.int .i64 i.pos, .int .u8 i.op.val, .int .i64 i.a, .int .i64 i.b]
theorem zb6 (i : Ins) : (eIn i).length = 4 := rfl
structure Wn where
  kind : Nat
  t : Ty
def eW (w : Wn) : List D := [.int .i64 w.kind, .int .u8 w.t.val]
theorem eW_len (w : Wn) : (eW w).length = 2 := rfl
inductive Gv where
  | no | const (l : List Ty) | dup | swap
def eG : Gv → D
  | .no => .nilfunc
  | .const l => .func (.func 242) [] [.eptr [.slice .no (rws eT l)]]
  | .dup => .func (.func 232) [] []
  | .swap => .func (.func 233) [] []
theorem eG_cellQ (g : Gv) : (eG g).cellQ = true := by cases g <;> rfl
theorem of153 (t : Ty) : zf9 Tryz.prog 229 [.int .u8 t.val] (.agg (eW ⟨4, t⟩)) := by
  refine F229.pcall' rfl fun T hT => ?_
  simp -implicitDefEqProofs only [go_sem, c229, hT, za3, za2]
  exact DLe.of_eq rfl
theorem giving154 (x : D) (hx : x.cellQ = true) : zf9 Tryz.prog 230 [x] (.func (.func 242) [] [.eptr [x]]) := by
  refine RCall.freeze (F230.rcall rfl fun T hT => ?_)
  simp -implicitDefEqProofs only [go_sem, c230, hT, hx]
  exact fun b => ⟨_, _, DLe.refl _, St.le.refl _, FLe.func .nil (.cons (FLe.box (by simp [St.set_box]) (FLes.refl _)) .nil)⟩
theorem fixed155 (x g : D) (hx : x.cellQ = true) (hg : g.cellQ = true) : zf9 Tryz.prog 231 [x, g] (.func (.func 243) [] [.eptr [x], .eptr [g]]) := by
  refine RCall.freeze (F231.rcall rfl fun T hT => ?_)
  simp -implicitDefEqProofs only [go_sem, c231, hT, hx, hg]
  intro b1 b2 n1
  have n2 : ¬ b1 = b2 := fun e => n1 (by simp [has_set, e])
  simp -implicitDefEqProofs only [go_sem, hT, n2]
  exact ⟨_, _, DLe.refl _, St.le.refl _, FLe.func .nil (.cons (FLe.box (by simp [St.set_box, n2]) (FLes.refl _)) (.cons (FLe.box (by simp [St.set_box]) (FLes.refl _)) .nil))⟩
theorem classed161 (x : D) (hx : x.cellQ = true) (c : Bool) : zf9 Tryz.prog 237 [x, .bool c] (.func (.func 244) [] [.eptr [.bool c], .eptr [x]]) := by
  refine RCall.freeze (F237.rcall rfl fun T hT => ?_)
  simp -implicitDefEqProofs only [go_sem, c237, hT, hx]
  intro b1 b2 n1 n2
  exact ⟨_, _, DLe.refl _, St.le.refl _, FLe.func .nil (.cons (FLe.box (by simp [St.set_box]) (FLes.refl _)) (.cons (FLe.box (by simp [St.set_box, n1, n2]) (FLes.refl _)) .nil))⟩
theorem field162 (c : Bool) : zf9 Tryz.prog 238 [.bool c] (.func (.func 246) [] [.eptr [.bool c]]) := by
  refine RCall.freeze (F238.rcall rfl fun T hT => ?_)
  simp -implicitDefEqProofs only [go_sem, c238, hT]
  exact fun b => ⟨_, _, DLe.refl _, St.le.refl _, FLe.func .nil (.cons (FLe.box (by simp [St.set_box]) (FLes.refl _)) .nil)⟩
theorem class187 (n : Nat) (h : n < 32) : zf9 Tryz.prog 245 [.int .i64 n] (.int .u8 (((⟨16 + n, by omega⟩ : Ty)).val : Int)) := by
  refine F245.pcall' rfl fun T hT => ?_
  have h1 : IntKind.wrap .u8 (n : Int) = n := wrap_u8 (by omega) (by omega)
  have h2 : IntKind.wrap .u8 (16 + (n : Int)) = 16 + n := wrap_u8 (by omega) (by omega)
  simp -implicitDefEqProofs only [go_sem, c245, hT, h1, h2]
  exact DLe.of_eq (by simp)
theorem gives184 (x y : D) : zf9 Tryz.prog 242 [y, .eptr [x]] x := by
  refine F242.pcall' rfl fun T hT => ?_
  simp -implicitDefEqProofs only [go_sem, c242, hT]
theorem dup156 (l : List Ty) (o : Own) (h : 0 < l.length) : zf9 Tryz.prog 232 [.slice o (rws eT l)] (.slice .no (rws eT [l[0], l[0]])) := by
  refine F232.pcall' rfl fun T hT => ?_
  have h0 : (rws eT l)[0]?.getD [] = eT l[0] := rws_at h
  simp -implicitDefEqProofs only [go_sem, c232, hT, h0, eT, eT_len, frz]
  refine ⟨by omega, by omega, ?_⟩
  exact DLe.slice _ _
theorem swap157 (l : List Ty) (o : Own) (h : 1 < l.length) : zf9 Tryz.prog 233 [.slice o (rws eT l)] (.slice .no (rws eT [l[1], l[0]])) := by
  refine F233.pcall' rfl fun T hT => ?_
  have h0 : (rws eT l)[0]?.getD [] = eT l[0] := rws_at (by omega)
  have h1 : (rws eT l)[1]?.getD [] = eT l[1] := rws_at h
  simp -implicitDefEqProofs only [go_sem, c233, hT, h0, h1, eT, eT_len, frz]
  refine ⟨by omega, by omega, ?_⟩
  exact DLe.slice _ _
structure Ef where
  takes : List Wn
  gives : Gv
def eEf (f : Ef) : List D := [.slice .no (rws eW f.takes), eG f.gives]
def ef0 : Ef := ⟨[], .no⟩
theorem tell185 (e i x g : D) (es is : List D) (he : e = .agg es) (hi : i = .agg is) (h1 : es.length = 3) (h2 : is.length = 4) (hx : x.cellQ = true) (hg : g.cellQ = true) :
    zf9 Tryz.prog 243 [e, i, .eptr [x], .eptr [g]] (.tup [.agg [x, g], .int .i64 0]) := by
  subst he; subst hi
  refine F243.pcall' rfl fun T hT => ?_
  simp -implicitDefEqProofs only [go_sem, c243, hT, h1, h2, hx, hg]
  intro b1 b2 n1 n2 b3 m1 m2 m3 m4
  simp -implicitDefEqProofs only [go_sem, hT, hx, hg, za3, za2, m1, m2, m3, m4]
theorem res160 (t : Ty) : zf9 Tryz.prog 236 [.int .u8 t.val] (.slice .no (rws eW (if t.val = 0 then [] else [⟨4, t⟩]))) := by
  refine F236.pcall' rfl fun T hT => ?_
  by_cases h : t.val = 0
  · have h1 : (t.val : Int) = 0 := by omega
    simp -implicitDefEqProofs only [go_sem, c236, hT, h1]
    rw [if_pos h]
    exact DLe.slice _ _
  · have h1 : ¬ (t.val : Int) = 0 := by omega
    simp -implicitDefEqProofs only [go_sem, c236, hT, h1]
    refine za4 (of153 t) ?_
    simp -implicitDefEqProofs only [go_sem, hT, eW, frz]
    rw [if_neg h]
    exact DLe.slice _ _
theorem tell159 (e : En) (i : Ins) (g : D) (hg : g.cellQ = true) (h : 0 ≤ e.fn) (h2 : e.fn.toNat < e.sgs.length) :
    zf9 Tryz.prog 235 [.agg (eEn e), .agg (eIn i), .eptr [g]] (.tup [.agg [.slice .no (rws eW (if e.sgs[e.fn.toNat].r.val = 0 then [] else [⟨4, e.sgs[e.fn.toNat].r⟩])), g], .int .i64 0]) := by
  obtain ⟨k, hk⟩ : ∃ k : Nat, e.fn = k := ⟨e.fn.toNat, by omega⟩
  have hkl : k < e.sgs.length := by omega
  have hR : (rws eSg e.sgs)[k]?.getD [] = eSg e.sgs[k] := rws_at hkl
  have hk' : e.fn.toNat = k := by omega
  simp only [hk']
  generalize e.sgs[k] = s at *
  refine F235.pcall' rfl fun T hT => ?_
  simp -implicitDefEqProofs only [go_sem, c235, hT, eEn, eIn, hk]
  intro b1 b2 n1 n2 b3 m1 m2 m3 m4
  simp -implicitDefEqProofs only [go_sem, hT, za3, za2, m1, m2, m3, m4, n1, n2, eEn, hk, hR, eSg]
  refine ⟨by omega, ?_⟩
  refine za4 (res160 s.r) ?_
  simp -implicitDefEqProofs only [go_sem, hT, hg, za3, za2, m1, m2, m3, m4, n1, n2]
open Go.Proofs
def sigMayB (c : Nat) (s : Sg) : Bool := decide (s.ps.length ≤ 8) && !(s.ps.any fun t => !storedN c t) && (decide (s.r.val = 0) || storedN c s.r)
theorem odd65 (e : En) (t : Ty) (b : Nat) (σ : St) (hb : σ.box b = some (eEn e)) :
    RCall Tryz.prog 120 [.int .u8 t.val, .ptr b 0] σ fun d s' => d = .bool (!storedN e.cs.length t) ∧ s' = σ := by
  refine F120.rcall rfl fun T hT => ?_
  simp -implicitDefEqProofs only [go_sem, c120, hT, hb, eEn]
  refine za4 (stored66 e.cs .no t) ?_
  simp -implicitDefEqProofs only [go_sem, hT]
  exact ⟨_, σ, DLe.refl _, St.le.refl _, rfl, rfl⟩
def sigsErr (c : Nat) : List Sg → Nat
  | [] => 0
  | s :: r => if 8 < s.ps.length then 4 else if sigMayB c s = false then 22 else sigsErr c r
def mayE (e : En) (n : Int) : Nat :=
  if (checkL isWordB e.cs).2 ≠ 0 then (checkL isWordB e.cs).2 else if 64 < e.sgs.length then 4 else if sigsErr e.cs.length e.sgs ≠ 0 then sigsErr e.cs.length e.sgs
  else if h : 0 ≤ e.fn ∧ e.fn.toNat < e.sgs.length then (startF e.cs.length e.sgs[e.fn.toNat].ps n).2 else 71
theorem sigsErr_skip {c : Nat} {s : Sg} {r : List Sg} (h : s.ps.length ≤ 8) (h2 : sigMayB c s = true) : sigsErr c (s :: r) = sigsErr c r := by
  rw [sigsErr, if_neg (by omega), if_neg (by simp [h2])]
theorem may31 (e : En) (n : Int) (hw : WideE e) : zf9 Tryz.prog 77 [.agg (eEn e), .int .i64 n] (.int .i64 (mayE e n)) := by
  obtain ⟨hw1, hw2, hw3⟩ := hw
  refine F77.pcall' rfl fun T hT => ?_
  simp -implicitDefEqProofs only [go_sem, c77, hT, eEn]
  intro b2
  refine za4 (check64 e.cs .no hw1) ?_
  by_cases hc : (checkL isWordB e.cs).2 = 0
  case neg =>
    have hc' : (((checkL isWordB e.cs).2 : Int) = 0) = False := by simp; omega
    simp -implicitDefEqProofs only [go_sem, hT, eEn, hc']
    exact DLe.of_eq (by rw [mayE, if_pos hc])
  have hc' : (((checkL isWordB e.cs).2 : Int) = 0) = True := by simp; omega
  simp -implicitDefEqProofs only [go_sem, hT, eEn, hc']
  by_cases h64 : (64 : Int) < e.sgs.length
  · simp -implicitDefEqProofs only [go_sem, hT, eEn, h64]
    exact DLe.of_eq (by rw [mayE, if_neg (by omega), if_pos (by omega)]; rfl)
  simp -implicitDefEqProofs only [go_sem, hT, eEn, h64]
  have hm : mayE e n = if sigsErr e.cs.length e.sgs ≠ 0 then sigsErr e.cs.length e.sgs else if h : 0 ≤ e.fn ∧ e.fn.toNat < e.sgs.length then (startF e.cs.length e.sgs[e.fn.toNat].ps n).2 else 71 := by
    rw [mayE, if_neg (by omega), if_neg (by omega)]
  refine loopL F77 (fun i : Nat => [(1, .int .i64 n), (2, .ptr b2 0), (26, .slice .no (rws eSg e.sgs)), (27, .int .i64 e.sgs.length), (28, .int .i64 i)]) (fun _ => ({} : St).set b2 (eEn e)) (fun i => i ≤ e.sgs.length ∧ sigsErr e.cs.length e.sgs = sigsErr e.cs.length (e.sgs.drop i)) (fun i => e.sgs.length - i) 0
    ⟨Nat.zero_le _, rfl⟩ ?_ (St.le.refl _) ?_
  · simp -implicitDefEqProofs only [go_sem, hT, Int.ofNat_zero]
  clear hT T
  rintro i ⟨hi, heq⟩ T hT
  by_cases h2 : i < e.sgs.length
  · have h3 : ((i : Int) < e.sgs.length) = True := by simp; omega
    have hR : (rws eSg e.sgs)[i]?.getD [] = eSg e.sgs[i] := rws_at h2
    have hwf := hw3 e.sgs[i] (by simp)
    rw [List.drop_eq_getElem_cons h2] at heq
    generalize e.sgs[i] = s at *
    have stop : ∀ k : Nat, k ≠ 0 → sigsErr e.cs.length e.sgs = k → DLe (.int .i64 k) (.int .i64 (mayE e n)) := fun k hk he => by
      rw [hm, if_pos (by omega), he]; exact DLe.refl _
    have e22 : s.ps.length ≤ 8 → sigMayB e.cs.length s = false → sigsErr e.cs.length e.sgs = 22 := fun h1 h2 => by
      rw [heq, sigsErr, if_neg (by omega), if_pos h2]
    have next : s.ps.length ≤ 8 → sigMayB e.cs.length s = true → ∀ σ' : St, St.le (({} : St).set b2 (eEn e)) σ' → ∃ y : Nat, (y ≤ e.sgs.length ∧ sigsErr e.cs.length e.sgs = sigsErr e.cs.length (e.sgs.drop y)) ∧ e.sgs.length - y < e.sgs.length - i ∧ D.int .i64 (IntKind.wrap .i64 ((i : Int) + 1)) = D.int .i64 (y : Int) ∧ St.le (({} : St).set b2 (eEn e)) σ' := fun h1 h2 σ' hle =>
      ⟨i + 1, ⟨by omega, by rw [heq, sigsErr_skip h1 h2]⟩, by omega, by rw [zb7 (by omega) (by omega)]; simp, hle⟩
    simp -implicitDefEqProofs only [go_sem, hT, h3, hR, eSg]
    refine ⟨by omega, fun b8 n1 n2 => ?_⟩
    by_cases h8 : (8 : Int) < s.ps.length
    · simp -implicitDefEqProofs only [go_sem, hT, h3, eSg, h8, n1, n2, za2]
      exact stop 4 (by decide) (by rw [heq, sigsErr, if_pos (by omega)])
    simp -implicitDefEqProofs only [go_sem, hT, h3, eSg, h8, n1, n2, za2]
    have hb2 : ((({} : St).set b2 (eEn e)).set b8 (eSg s)).box b2 = some (eEn e) := by
      have : ¬ b2 = b8 := by omega
      simp [St.set_box, this]
    refine callB_all (contFunc67 s.ps .no 120 [] [.ptr b2 0] (fun t => !storedN e.cs.length t) _ (by omega) fun t _ => odd65 e t b2 _ hb2) ?_
    rintro d s' ⟨rfl, rfl⟩
    cases hA : s.ps.any fun t => !storedN e.cs.length t
    case true =>
      simp -implicitDefEqProofs only [go_sem, hT, h3, eSg, n1, n2]
      exact stop 22 (by decide) (e22 (by omega) (by rw [sigMayB, hA]; simp))
    by_cases h0 : (s.r.val : Int) = 0
    · simp -implicitDefEqProofs only [go_sem, hT, h3, eSg, n1, n2, h0]
      exact next (by omega) (by rw [sigMayB, hA]; simp; omega) _ (le_add (by simp [has_set, has_nil]; omega))
    simp -implicitDefEqProofs only [go_sem, hT, h3, eSg, n1, n2, h0]
    refine callB_all (odd65 e s.r b2 _ hb2) ?_
    rintro d s' ⟨rfl, rfl⟩
    have hr : ¬ s.r.val = 0 := by omega
    cases hS : storedN e.cs.length s.r
    · simp -implicitDefEqProofs only [go_sem, hT, h3, eSg, n1, n2]
      exact stop 22 (by decide) (e22 (by omega) (by rw [sigMayB, hA, hS]; simp [hr]))
    · simp -implicitDefEqProofs only [go_sem, hT, h3, eSg, n1, n2]
      exact next (by omega) (by rw [sigMayB, hA, hS]; simp; omega) _ (le_add (by simp [has_set, has_nil]; omega))
  · have h3 : ((i : Int) < e.sgs.length) = False := by simp; omega
    rw [List.drop_of_length_le (by omega), sigsErr] at heq
    rw [if_neg (by omega)] at hm
    by_cases hf : 0 ≤ e.fn ∧ e.fn.toNat < e.sgs.length
    · have hfc : (decide (e.fn < 0) || decide ((e.sgs.length : Int) ≤ e.fn)) = false := by simp; omega
      rw [dif_pos hf] at hm
      obtain ⟨k, hk⟩ : ∃ k : Nat, e.fn = k := ⟨e.fn.toNat, by omega⟩
      have hkl : k < e.sgs.length := by omega
      have hR : (rws eSg e.sgs)[k]?.getD [] = eSg e.sgs[k] := rws_at hkl
      have hwf := hw3 e.sgs[k] (by simp)
      have hm' : mayE e n = (startF e.cs.length e.sgs[k].ps n).2 := by rw [hm]; simp [hk]
      rw [hk] at hfc
      simp -implicitDefEqProofs only [go_sem, mmB, hT, h3, eEn, hk, hfc, hR, eSg]
      refine ⟨by omega, ?_⟩
      refine za4 (start68 e.cs .no .no e.sgs[k].ps n (by omega)) ?_
      simp -implicitDefEqProofs only [go_sem, mmB, hT, za6]
      rw [hm']
      exact fun _ _ _ => DLe.refl _
    · have hfc : (decide (e.fn < 0) || decide ((e.sgs.length : Int) ≤ e.fn)) = true := by simp; omega
      rw [dif_neg hf] at hm
      simp -implicitDefEqProofs only [go_sem, mmB, hT, h3, eEn, hfc]
      exact DLe.of_eq (by rw [hm]; rfl)
open Go.Proofs
structure Can (e : En) : Prop where
  wide : WideE e
  right : Right isWordB e.cs e.cs.length
  fn0 : 0 ≤ e.fn
  fn1 : e.fn.toNat < e.sgs.length
  sigs : ∀ s ∈ e.sgs, s.ps.length ≤ 8
theorem Can.cls {e : En} (h : Can e) : e.cs.length ≤ 32 := by
  by_cases h0 : e.cs.length = 0
  · omega
  · have := (h.right.at (i := e.cs.length - 1) (by omega) (by omega)).1
    omega
theorem Can.flds {e : En} (h : Can e) (c : Int) : (ze5 e.cs (upI e.cs c).reverse).length ≤ 32 := by
  rw [fieldsOn_len]
  by_cases hc : c < e.cs.length
  · have := namesUp_len h.right c hc
    simpa [namesUp] using this
  · rw [upI_out (by omega)]; simp [ze5]
theorem DLe_gives {o : Own} {es : List (List D)} {l : List Ty} (h : es = rws eT l) : DLe (.func (.func 242) [] [.eptr [.slice o es]]) (eG (.const l)) := by
  subst h; exact DLe.func .nil (.cons (DLe.eptr (.cons (DLe.slice _ _) .nil)) .nil)
theorem DLe_ef {x g x' g' : D} {n : Int} (h1 : DLe x x') (h2 : DLe g g') : DLe (.tup [.agg [x, g], .int .i64 n]) (.tup [.agg [x', g'], .int .i64 n]) :=
  DLe.tup (.cons (DLe.agg (.cons h1 (.cons h2 .nil))) (.cons (.refl _) .nil))
def ofClass (a : Int) : Ty := Fin.ofNat 256 (16 + a.toNat)
def bYdaI0 := aI @za3 @za2
theorem tell186 (e : En) (i : Ins) (x : D) (c : Bool) (hx : x.cellQ = true) (h32 : e.cs.length ≤ 32) :
    zf9 Tryz.prog 244 [.agg (eEn e), .agg (eIn i), .eptr [.bool c], .eptr [x]] (if i.a < 0 ∨ (e.cs.length : Int) ≤ i.a then .tup [.agg (eEf ef0), .int .i64 72] else .tup [.agg [x, eG (.const [if c then ofClass i.a else 2])], .int .i64 0]) := by
  refine F244.pcall' rfl fun T hT => ?_
  simp -implicitDefEqProofs only [go_sem, c244, hT, eEn, eIn]
  intro b1 b2 n1 n2 b3 m1 m2 m3 m4
  by_cases h : i.a < 0 ∨ (e.cs.length : Int) ≤ i.a
  · have hc : (decide (i.a < 0) || decide ((e.cs.length : Int) ≤ i.a)) = true := by simpa using h
    simp -implicitDefEqProofs only [go_sem, mmB, hT, hx, m1, m2, m3, m4, n1, n2, hc, bYdaI0]
    rw [if_pos h]
    exact DLe_ef (DLe.slice _ _) (.refl _)
  · have hc : (decide (i.a < 0) || decide ((e.cs.length : Int) ≤ i.a)) = false := by simpa using h
    obtain ⟨k, hk⟩ : ∃ k : Nat, i.a = k := ⟨i.a.toNat, by omega⟩
    have hkc : ofClass i.a = (⟨16 + k, by omega⟩ : Ty) := by
      rw [hk]; ext; simp [ofClass]; omega
    rw [if_neg h]
    cases c
    · simp -implicitDefEqProofs only [go_sem, mmB, hT, hx, m1, m2, m3, m4, n1, n2, hc, frz, bYdaI0]
      refine za4 (giving154 _ rfl) ?_
      simp -implicitDefEqProofs only [go_sem, mmB, hT, hx, m1, m2, m3, m4, n1, n2, bYdaI0]
      exact DLe_ef (.refl _) (DLe_gives rfl)
    · simp -implicitDefEqProofs only [go_sem, mmB, hT, hx, m1, m2, m3, m4, n1, n2, hc, bYdaI0]
      rw [hk]
      refine za4 (class187 k (by omega)) ?_
      simp -implicitDefEqProofs only [go_sem, mmB, hT, hx, m1, m2, m3, m4, n1, n2, frz, bYdaI0]
      refine za4 (giving154 _ rfl) ?_
      simp -implicitDefEqProofs only [go_sem, mmB, hT, hx, m1, m2, m3, m4, n1, n2, bYdaI0]
      rw [← hk, hkc]
      exact DLe_ef (.refl _) (DLe_gives rfl)
theorem tell158 (e : En) (i : Ins) (hc : Can e) :
    zf9 Tryz.prog 234 [.agg (eEn e), .agg (eIn i)] (if h : 0 ≤ i.a ∧ i.a.toNat < e.sgs.length then .tup [.agg [.slice .no (rws eW (e.sgs[i.a.toNat].ps.map fun t => ⟨4, t⟩)), eG (.const (if e.sgs[i.a.toNat].r.val = 0 then [] else [e.sgs[i.a.toNat].r]))], .int .i64 0] else .tup [.agg (eEf ef0), .int .i64 71]) := by
  refine F234.pcall' rfl fun T hT => ?_
  simp -implicitDefEqProofs only [go_sem, c234, hT, eEn, eIn]
  intro b1 b2 n1 n2 b3 m1 m2 m3 m4
  by_cases h : 0 ≤ i.a ∧ i.a.toNat < e.sgs.length
  case neg =>
    have hq : (decide (i.a < 0) || decide ((e.sgs.length : Int) ≤ i.a)) = true := by simp; omega
    simp -implicitDefEqProofs only [go_sem, mmB, hT, m1, m2, m3, m4, n1, n2, hq, bYdaI0]
    rw [dif_neg h]
    exact DLe_ef (DLe.slice _ _) (.refl _)
  have hq : (decide (i.a < 0) || decide ((e.sgs.length : Int) ≤ i.a)) = false := by simp; omega
  rw [dif_pos h]
  obtain ⟨k, hk⟩ : ∃ k : Nat, i.a = k := ⟨i.a.toNat, by omega⟩
  have hkl : k < e.sgs.length := by omega
  have hR : (rws eSg e.sgs)[k]?.getD [] = eSg e.sgs[k] := rws_at hkl
  have h8 := hc.sigs e.sgs[k] (by simp)
  have hkn : i.a.toNat = k := by omega
  simp only [hkn]
  rw [hk] at hq
  generalize e.sgs[k] = s at *
  simp -implicitDefEqProofs only [go_sem, mmB, hT, m1, m2, m3, m4, n1, n2, hk, hq, hR, eSg, bYdaI0]
  refine ⟨by omega, fun b4 k1 k2 k3 k4 k5 k6 => ?_⟩
  have hbase : St.le ((({} : St).set b3 [.slice .nil [], .nilfunc]).set b4 (eSg s)) (((((({} : St).set b1 [.slice .no (rws eC e.cs), .slice .no (rws eSg e.sgs), .int .i64 e.fn]).set b2 (eIn i)).set b3 [.slice .nil [], .nilfunc])).set b4 (eSg s)) := le_set (le_set (St.le.nil _))
  refine loopL F234 (fun x : Nat × Option Nat => [(4, .ptr b3 0), (6, .ptr b4 0), (7, grD 2 x.2 (rws eW ((s.ps.take x.1).map fun t => ⟨4, t⟩))), (29, .slice .no (rws eT s.ps)), (30, .int .i64 s.ps.length), (31, .int .i64 x.1)]) (fun x => grS 2 x.1 x.2 ((({} : St).set b3 [.slice .nil [], .nilfunc]).set b4 (eSg s)))
    (fun x => x.1 ≤ s.ps.length ∧ (x.2 = none → x.1 = 0) ∧ grN x.2 ((({} : St).set b3 [.slice .nil [], .nilfunc]).set b4 (eSg s))) (fun x => s.ps.length - x.1) (0, none)
    ⟨Nat.zero_le _, fun _ => rfl, grN_none⟩ ?_ (le_set (le_set (St.le.nil _))) ?_
  · simp -implicitDefEqProofs only [go_sem, mmB, hT, Int.ofNat_zero]
    rfl
  clear hT T
  rintro ⟨j, ob⟩ ⟨hj, hn, hg⟩ T hT
  simp only at hj hn hg hT ⊢
  by_cases h2 : j < s.ps.length
  · have h3 : ((j : Int) < s.ps.length) = True := by simp; omega
    have htake : s.ps.take (j + 1) = s.ps.take j ++ [s.ps[j]] := List.take_succ_eq_append_getElem h2
    have hRt : (rws eT s.ps)[j]?.getD [] = eT s.ps[j] := rws_at h2
    generalize s.ps[j] = t at *
    have hlj : (rws eW ((s.ps.take j).map fun t => (⟨4, t⟩ : Wn))).length = j := by simp [rws]; omega
    simp -implicitDefEqProofs only [go_sem, hT, h3, hRt, eT, eT_len]
    refine ⟨by omega, za4 (of153 t) ?_⟩
    simp -implicitDefEqProofs only [go_sem, hT, eW, frz]
    refine app_gr' Tryz.sli227 Tryz.sz266 Tryz.by266 Tryz.zero266 rfl (n := j) (m := 1) hlj rfl (St.le.refl _) hg hn (by simp) (by omega) fun o' σ' hbox hle hgn hno => ?_
    simp -implicitDefEqProofs only [go_sem, hT]
    refine ⟨(j + 1, o'), ⟨by omega, by simpa using hno, hgn⟩, by omega, ⟨?_, ?_⟩, hle⟩
    · rw [htake]; simp [rws, eW]
    · rw [zb7 (by omega) (by omega)]; simp
  · have h3 : ((j : Int) < s.ps.length) = False := by simp; omega
    have hx : ∀ σ : St, (grS 2 j ob σ).box = σ.box := fun _ => grS_box
    by_cases h0 : s.r.val = 0
    · have h0' : (s.r.val : Int) = 0 := by omega
      simp -implicitDefEqProofs only [go_sem, hT, h3, grS_boxa, eSg, k2, k1, h0']
      refine za4 (giving154 _ rfl) ?_
      simp -implicitDefEqProofs only [go_sem, hT, grS_boxa, eSg, k2, k1, za3]
      rw [if_pos h0, List.take_of_length_le (by omega)]
      exact DLe_ef grD_le (DLe_gives rfl)
    · have h0' : ¬ (s.r.val : Int) = 0 := by omega
      simp -implicitDefEqProofs only [go_sem, hT, h3, grS_boxa, eSg, k2, k1, h0', frz]
      refine za4 (giving154 _ rfl) ?_
      simp -implicitDefEqProofs only [go_sem, hT, grS_boxa, eSg, k2, k1, za3]
      rw [if_neg h0, List.take_of_length_le (by omega)]
      exact DLe_ef grD_le (DLe_gives rfl)
theorem tell188 (e : En) (i : Ins) (put : Bool) (hc : Can e) :
    zf9 Tryz.prog 246 [.agg (eEn e), .agg (eIn i), .eptr [.bool put]] (if h : (0 ≤ i.a ∧ i.a < e.cs.length) ∧ 0 ≤ i.b ∧ i.b.toNat < (ze5 e.cs (upI e.cs i.a).reverse).length then
      (if put = true then .tup [.agg [.slice .no (rws eW [⟨4, ofClass i.a⟩, ⟨4, ((ze5 e.cs (upI e.cs i.a).reverse)[i.b.toNat]'h.2.2).ty⟩]), eG (.const [])], .int .i64 0]
        else .tup [.agg [.slice .no (rws eW [⟨4, ofClass i.a⟩]), eG (.const [((ze5 e.cs (upI e.cs i.a).reverse)[i.b.toNat]'h.2.2).ty])], .int .i64 0])
      else .tup [.agg (eEf ef0), .int .i64 72]) := by
  have hw1 := hc.wide.1.1
  have hfl := hc.flds i.a
  have h32 := hc.cls
  refine F246.pcall' rfl fun T hT => ?_
  simp -implicitDefEqProofs only [go_sem, c246, hT, eEn, eIn]
  intro b1 b2 n1 n2 b3 m1 m2 m3 m4
  simp -implicitDefEqProofs only [go_sem, hT, eEn, eIn, m1, m2, m3, m4, n1, n2]
  refine za4 (fields189 e.cs .no i.a (by omega) (by omega)) ?_
  generalize hF : ze5 e.cs (upI e.cs i.a).reverse = F at *
  by_cases h : (0 ≤ i.a ∧ i.a < e.cs.length) ∧ 0 ≤ i.b ∧ i.b.toNat < F.length
  case neg =>
    have hq : (decide (i.a < 0) || decide ((e.cs.length : Int) ≤ i.a) || decide (i.b < 0) || decide ((F.length : Int) ≤ i.b)) = true := by simp; omega
    simp -implicitDefEqProofs only [go_sem, mmB, hT, m1, m2, m3, m4, n1, n2, hq, bYdaI0]
    rw [dif_neg h]
    exact DLe_ef (DLe.slice _ _) (.refl _)
  have hq : (decide (i.a < 0) || decide ((e.cs.length : Int) ≤ i.a) || decide (i.b < 0) || decide ((F.length : Int) ≤ i.b)) = false := by simp; omega
  rw [dif_pos h]
  obtain ⟨k, hk⟩ : ∃ k : Nat, i.a = k := ⟨i.a.toNat, by omega⟩
  obtain ⟨j, hj⟩ : ∃ j : Nat, i.b = j := ⟨i.b.toNat, by omega⟩
  have hjn : i.b.toNat = j := by omega
  have hjl : j < F.length := by omega
  have hR : (rws eF F)[j]?.getD [] = eF F[j] := rws_at hjl
  have hkc : ofClass i.a = (⟨16 + k, by omega⟩ : Ty) := by
    rw [hk]; ext; simp [ofClass]; omega
  simp only [hjn, hkc]
  rw [hk, hj] at hq
  generalize F[j] = f at *
  cases put
  · simp -implicitDefEqProofs only [go_sem, mmB, hT, za3, za2, m1, m2, m3, m4, n1, n2, hk, hj, hq, hR, eF, eF_len]
    refine ⟨by omega, za4 (class187 k (by omega)) ?_⟩
    simp -implicitDefEqProofs only [go_sem, mmB, hT, m1, m2, m3, m4, n1, n2, bYdaI0]
    refine za4 (of153 (⟨16 + k, by omega⟩ : Ty)) ?_
    simp -implicitDefEqProofs only [go_sem, mmB, hT, m1, m2, m3, m4, n1, n2, eW, frz, bYdaI0]
    refine za4 (giving154 _ rfl) ?_
    simp -implicitDefEqProofs only [go_sem, mmB, hT, m1, m2, m3, m4, n1, n2, bYdaI0]
    exact DLe_ef (DLe.slice _ _) (DLe_gives rfl)
  · simp -implicitDefEqProofs only [go_sem, mmB, hT, za3, za2, m1, m2, m3, m4, n1, n2, hk, hj, hq, hR, eF, eF_len]
    refine ⟨by omega, za4 (class187 k (by omega)) ?_⟩
    simp -implicitDefEqProofs only [go_sem, mmB, hT, m1, m2, m3, m4, n1, n2, bYdaI0]
    refine za4 (of153 (⟨16 + k, by omega⟩ : Ty)) ?_
    simp -implicitDefEqProofs only [go_sem, mmB, hT, m1, m2, m3, m4, n1, n2, eW, bYdaI0]
    refine za4 (of153 f.ty) ?_
    simp -implicitDefEqProofs only [go_sem, mmB, hT, m1, m2, m3, m4, n1, n2, eW, frz, bYdaI0]
    refine za4 (giving154 _ rfl) ?_
    simp -implicitDefEqProofs only [go_sem, mmB, hT, m1, m2, m3, m4, n1, n2, bYdaI0]
    exact DLe_ef (DLe.slice _ _) (DLe_gives rfl)
open Go.Proofs
inductive Tl where
  | no | fixed (ws : List Wn) (g : Gv) | call | ret | classed (ws : List Wn) (c : Bool) | field (put : Bool)
def eTl : Tl → D
  | .no => .nilfunc
  | .fixed ws g => .func (.func 243) [] [.eptr [.slice .no (rws eW ws)], .eptr [eG g]]
  | .call => .func (.func 234) [] []
  | .ret => .func (.func 235) [] [.eptr [eG (.const [])]]
  | .classed ws c => .func (.func 244) [] [.eptr [.bool c], .eptr [.slice .no (rws eW ws)]]
  | .field put => .func (.func 246) [] [.eptr [.bool put]]
def wi : Wn := ⟨4, 1⟩
def wb : Wn := ⟨4, 2⟩
def wr : Wn := ⟨4, 4⟩
def tblL : List Tl := [
  .fixed [] (.const []), .fixed [] (.const [1]), .fixed [] (.const [2]), .fixed [] (.const [3]), .fixed [] (.const [0]), .fixed [⟨1, 0⟩] (.const []), .fixed [⟨0, 0⟩] (.const []), .fixed [⟨0, 0⟩] .dup, .fixed [⟨0, 0⟩, ⟨0, 0⟩] .swap,
  .fixed [wi, wi] (.const [1]), .fixed [wi, wi] (.const [1]), .fixed [wi, wi] (.const [1]), .fixed [wi, wi] (.const [1]), .fixed [wi, wi] (.const [1]), .fixed [wi] (.const [1]), .fixed [wi, wi] (.const [2]), .fixed [⟨3, 0⟩, ⟨3, 0⟩] (.const [2]),
  .fixed [wb] (.const [2]), .fixed [⟨2, 0⟩, ⟨2, 0⟩] (.const [2]), .fixed [] (.const []), .fixed [wb] (.const []), .call, .ret, .classed [] true, .field false, .field true,
  .fixed [wi] (.const [4]), .fixed [wr] (.const [1]), .fixed [wr, wi] (.const [1]), .fixed [wr, wi, wi] (.const []), .classed [⟨2, 0⟩] true, .classed [⟨2, 0⟩] false, .fixed [] (.const []), .fixed [wi] (.const [])]
theorem of1 : zf9 Tryz.prog 229 [.int .u8 1] (.agg [.int .i64 4, .int .u8 1]) := of153 1
theorem of2 : zf9 Tryz.prog 229 [.int .u8 2] (.agg [.int .i64 4, .int .u8 2]) := of153 2
theorem of4 : zf9 Tryz.prog 229 [.int .u8 4] (.agg [.int .i64 4, .int .u8 4]) := of153 4
def gE (l : List Int) : D := .func (.func 242) [] [.eptr [.slice .exact (l.map fun n => [.int .u8 n])]]
def gN : D := .func (.func 242) [] [.eptr [.slice .nil []]]
def fx (x g : D) : D := .func (.func 243) [] [.eptr [x], .eptr [g]]
def wE (l : List (Int × Int)) : D := .slice .exact (l.map fun p => [.int .i64 p.1, .int .u8 p.2])
def wN : D := .slice .nil []
def putAt (l : List D) (ks : List Nat) (v : D) : List D := ks.foldl (fun l k => l.set k v) l
def tab0 : List D := List.replicate 34 .nilfunc
def tab8 : List D := [fx wN gN, fx wN (gE [1]), fx wN (gE [2]), fx wN (gE [3]), fx wN (gE [0]), fx (wE [(1, 0)]) gN, fx (wE [(0, 0)]) gN, fx (wE [(0, 0)]) (.func (.func 232) [] []), fx (wE [(0, 0), (0, 0)]) (.func (.func 233) [] []),
  .nilfunc, .nilfunc, .nilfunc, .nilfunc, .nilfunc, .nilfunc, .nilfunc, .nilfunc, .nilfunc, .nilfunc, fx wN gN, .nilfunc, .nilfunc, .nilfunc, .nilfunc, .nilfunc, .nilfunc, .nilfunc, .nilfunc, .nilfunc, .nilfunc, .nilfunc, .nilfunc, fx wN gN, .nilfunc]
def stT (b0 b1 b2 b3 b5 b6 : Nat) (tab : List D) : St := (((((({} : St).set b0 tab0).set b1 [.int .i64 4, .int .u8 1]).set b2 [.int .i64 4, .int .u8 2]).set b3 [.int .i64 4, .int .u8 4]).set b5 [gN]).set b6 tab
def bYdaJ0 := aI @za2 @Int.ofNat_zero
theorem table126 : zf9 Tryz.prog 209 [] (.agg (tblL.map eTl)) := by
  refine RCall.freeze (F209.rcall rfl fun T hT => ?_)
  simp -implicitDefEqProofs only [go_sem, c209, hT]
  intro b0
  refine za4 of1 ?_
  simp -implicitDefEqProofs only [go_sem, hT]
  refine za4 of2 ?_
  simp -implicitDefEqProofs only [go_sem, hT]
  refine za4 of4 ?_
  simp -implicitDefEqProofs only [go_sem, hT]
  intro b1 _ _ b2 _ _ _ _ b3 _ _ _ _ _ _
  simp -implicitDefEqProofs only [go_sem, *, za2, frz]
  refine za4 (giving154 _ rfl) ?_
  simp -implicitDefEqProofs only [go_sem, *, za2]
  intro b5 _ _ _ _ _ _ _ _ _ _ _ _ _ _ b6 _ _ _ _ _ _ _ _ _ _ _ _ _ _ _ _ 
  refine loopL F209 (fun x : Nat => [(0, .ptr b0 0), (1, .ptr b1 0), (2, .ptr b2 0), (3, .ptr b3 0), (4, wE [(4, 1), (4, 1)]), (5, .ptr b5 0), (6, .ptr b6 0), (18, .slice .exact ([0, 19, 32].map fun n => [.int .u8 n])), (19, .int .i64 3), (20, .int .i64 x)])
    (fun x => stT b0 b1 b2 b3 b5 b6 (putAt tab0 ([0, 19, 32].take x) (fx wN gN))) (fun x => x ≤ 3) (fun x => 3 - x) 0 (Nat.zero_le _) ?_ ?_ ?_
  · simp -implicitDefEqProofs only [go_sem, *, wE, Int.ofNat_zero]
    first | exact ⟨rfl, rfl⟩ | rfl
  · refine ⟨fun y l h => ?_, fun y p h => h⟩
    simp only [stT, St.set] at h ⊢
    repeat' split at h
    all_goals simp_all [putAt, tab0, List.replicate, gN]
  clear hT T
  intro x hx T hT
  have hx' : x = 0 ∨ x = 1 ∨ x = 2 ∨ x = 3 := by omega
  rcases hx' with rfl | rfl | rfl | rfl
  · simp -implicitDefEqProofs only [go_sem, *, stT, tab0, tab8, putAt, gN, gE, fx, wE, wN, List.foldl_cons, List.foldl_nil, List.set_cons_zero, List.set_cons_succ, frz, Int.ofNat_one, Int.cast_ofNat_Int, Int.reduceToNat, bYdaJ0]
    refine za4 (fixed155 _ _ rfl rfl) ?_
    simp -implicitDefEqProofs only [go_sem, *, stT, tab0, tab8, putAt, gN, gE, fx, wE, wN, List.foldl_cons, List.foldl_nil, List.set_cons_zero, List.set_cons_succ, za2, frz]
    exact ⟨by omega, 1, by omega, by omega, by rw [zb7 (by omega) (by omega)]; rfl, St.le.refl _⟩
  · simp -implicitDefEqProofs only [go_sem, *, stT, tab0, tab8, putAt, gN, gE, fx, wE, wN, List.foldl_cons, List.foldl_nil, List.set_cons_zero, List.set_cons_succ, frz, Int.ofNat_one, Int.cast_ofNat_Int, Int.reduceToNat, bYdaJ0]
    refine za4 (fixed155 _ _ rfl rfl) ?_
    simp -implicitDefEqProofs only [go_sem, *, stT, tab0, tab8, putAt, gN, gE, fx, wE, wN, List.foldl_cons, List.foldl_nil, List.set_cons_zero, List.set_cons_succ, za2, frz]
    exact ⟨by omega, 2, by omega, by omega, by rw [zb7 (by omega) (by omega)]; rfl, St.le.refl _⟩
  · simp -implicitDefEqProofs only [go_sem, *, stT, tab0, tab8, putAt, gN, gE, fx, wE, wN, List.foldl_cons, List.foldl_nil, List.set_cons_zero, List.set_cons_succ, frz, Int.ofNat_one, Int.cast_ofNat_Int, Int.reduceToNat, bYdaJ0]
    refine za4 (fixed155 _ _ rfl rfl) ?_
    simp -implicitDefEqProofs only [go_sem, *, stT, tab0, tab8, putAt, gN, gE, fx, wE, wN, List.foldl_cons, List.foldl_nil, List.set_cons_zero, List.set_cons_succ, za2, frz]
    exact ⟨by omega, 3, by omega, by omega, by rw [zb7 (by omega) (by omega)]; rfl, St.le.refl _⟩
  simp -implicitDefEqProofs only [go_sem, *, stT, tab0, tab8, putAt, gN, gE, fx, wE, wN, List.foldl_cons, List.foldl_nil, List.set_cons_zero, List.set_cons_succ, za2, frz]
  refine za4 (giving154 _ rfl) ?_
  simp -implicitDefEqProofs only [go_sem, *, za2, frz]
  refine za4 (fixed155 _ _ rfl rfl) ?_
  simp -implicitDefEqProofs only [go_sem, *, za2, frz]
  refine ⟨by omega, ?_⟩
  refine za4 (giving154 _ rfl) ?_
  simp -implicitDefEqProofs only [go_sem, *, za2, frz]
  refine za4 (fixed155 _ _ rfl rfl) ?_
  simp -implicitDefEqProofs only [go_sem, *, za2, frz]
  refine ⟨by omega, ?_⟩
  refine za4 (giving154 _ rfl) ?_
  simp -implicitDefEqProofs only [go_sem, *, za2, frz]
  refine za4 (fixed155 _ _ rfl rfl) ?_
  simp -implicitDefEqProofs only [go_sem, *, za2, frz]
  refine ⟨by omega, ?_⟩
  refine za4 (giving154 _ rfl) ?_
  simp -implicitDefEqProofs only [go_sem, *, za2, frz]
  refine za4 (fixed155 _ _ rfl rfl) ?_
  simp -implicitDefEqProofs only [go_sem, *, za2, frz]
  refine ⟨by omega, ?_⟩
  refine za4 (fixed155 _ _ rfl rfl) ?_
  simp -implicitDefEqProofs only [go_sem, *, za2, frz]
  refine ⟨by omega, ?_⟩
  refine za4 (fixed155 _ _ rfl rfl) ?_
  simp -implicitDefEqProofs only [go_sem, *, za2, frz]
  refine ⟨by omega, ?_⟩
  refine za4 (fixed155 _ _ rfl rfl) ?_
  simp -implicitDefEqProofs only [go_sem, *, za2, frz]
  refine ⟨by omega, ?_⟩
  refine za4 (fixed155 _ _ rfl rfl) ?_
  simp -implicitDefEqProofs only [go_sem, *, za2, frz]
  refine ⟨by omega, ?_⟩
  refine loopL F209 (fun x : Nat => [(0, .ptr b0 0), (1, .ptr b1 0), (2, .ptr b2 0), (3, .ptr b3 0), (4, wE [(4, 1), (4, 1)]), (5, .ptr b5 0), (6, .ptr b6 0), (64, .slice .exact ([9, 10, 11, 12, 13].map fun n => [.int .u8 n])), (65, .int .i64 5), (66, .int .i64 x)])
    (fun x => stT b0 b1 b2 b3 b5 b6 (putAt tab8 ([9, 10, 11, 12, 13].take x) (fx (wE [(4, 1), (4, 1)]) (gE [1])))) (fun x => x ≤ 5) (fun x => 5 - x) 0 (Nat.zero_le _) ?_ ?_ ?_
  · simp -implicitDefEqProofs only [go_sem, *, wE, Int.ofNat_zero]
    first | exact ⟨rfl, rfl⟩ | rfl
  · exact St.le.refl _
  clear hT T
  intro x hx T hT
  have hx' : x = 0 ∨ x = 1 ∨ x = 2 ∨ x = 3 ∨ x = 4 ∨ x = 5 := by omega
  rcases hx' with rfl | rfl | rfl | rfl | rfl | rfl
  · simp -implicitDefEqProofs only [go_sem, *, stT, tab0, tab8, putAt, gN, gE, fx, wE, wN, List.foldl_cons, List.foldl_nil, List.set_cons_zero, List.set_cons_succ, frz, Int.ofNat_one, Int.cast_ofNat_Int, Int.reduceToNat, bYdaJ0]
    refine za4 (giving154 _ rfl) ?_
    simp -implicitDefEqProofs only [go_sem, *, stT, tab0, tab8, putAt, gN, gE, fx, wE, wN, List.foldl_cons, List.foldl_nil, List.set_cons_zero, List.set_cons_succ, za2, frz]
    refine za4 (fixed155 _ _ rfl rfl) ?_
    simp -implicitDefEqProofs only [go_sem, *, stT, tab0, tab8, putAt, gN, gE, fx, wE, wN, List.foldl_cons, List.foldl_nil, List.set_cons_zero, List.set_cons_succ, za2, frz]
    exact ⟨by omega, 1, by omega, by omega, by rw [zb7 (by omega) (by omega)]; rfl, St.le.refl _⟩
  · simp -implicitDefEqProofs only [go_sem, *, stT, tab0, tab8, putAt, gN, gE, fx, wE, wN, List.foldl_cons, List.foldl_nil, List.set_cons_zero, List.set_cons_succ, frz, Int.ofNat_one, Int.cast_ofNat_Int, Int.reduceToNat, bYdaJ0]
    refine za4 (giving154 _ rfl) ?_
    simp -implicitDefEqProofs only [go_sem, *, stT, tab0, tab8, putAt, gN, gE, fx, wE, wN, List.foldl_cons, List.foldl_nil, List.set_cons_zero, List.set_cons_succ, za2, frz]
    refine za4 (fixed155 _ _ rfl rfl) ?_
    simp -implicitDefEqProofs only [go_sem, *, stT, tab0, tab8, putAt, gN, gE, fx, wE, wN, List.foldl_cons, List.foldl_nil, List.set_cons_zero, List.set_cons_succ, za2, frz]
    exact ⟨by omega, 2, by omega, by omega, by rw [zb7 (by omega) (by omega)]; rfl, St.le.refl _⟩
  · simp -implicitDefEqProofs only [go_sem, *, stT, tab0, tab8, putAt, gN, gE, fx, wE, wN, List.foldl_cons, List.foldl_nil, List.set_cons_zero, List.set_cons_succ, frz, Int.ofNat_one, Int.cast_ofNat_Int, Int.reduceToNat, bYdaJ0]
    refine za4 (giving154 _ rfl) ?_
    simp -implicitDefEqProofs only [go_sem, *, stT, tab0, tab8, putAt, gN, gE, fx, wE, wN, List.foldl_cons, List.foldl_nil, List.set_cons_zero, List.set_cons_succ, za2, frz]
    refine za4 (fixed155 _ _ rfl rfl) ?_
    simp -implicitDefEqProofs only [go_sem, *, stT, tab0, tab8, putAt, gN, gE, fx, wE, wN, List.foldl_cons, List.foldl_nil, List.set_cons_zero, List.set_cons_succ, za2, frz]
    exact ⟨by omega, 3, by omega, by omega, by rw [zb7 (by omega) (by omega)]; rfl, St.le.refl _⟩
  · simp -implicitDefEqProofs only [go_sem, *, stT, tab0, tab8, putAt, gN, gE, fx, wE, wN, List.foldl_cons, List.foldl_nil, List.set_cons_zero, List.set_cons_succ, frz, Int.ofNat_one, Int.cast_ofNat_Int, Int.reduceToNat, bYdaJ0]
    refine za4 (giving154 _ rfl) ?_
    simp -implicitDefEqProofs only [go_sem, *, stT, tab0, tab8, putAt, gN, gE, fx, wE, wN, List.foldl_cons, List.foldl_nil, List.set_cons_zero, List.set_cons_succ, za2, frz]
    refine za4 (fixed155 _ _ rfl rfl) ?_
    simp -implicitDefEqProofs only [go_sem, *, stT, tab0, tab8, putAt, gN, gE, fx, wE, wN, List.foldl_cons, List.foldl_nil, List.set_cons_zero, List.set_cons_succ, za2, frz]
    exact ⟨by omega, 4, by omega, by omega, by rw [zb7 (by omega) (by omega)]; rfl, St.le.refl _⟩
  · simp -implicitDefEqProofs only [go_sem, *, stT, tab0, tab8, putAt, gN, gE, fx, wE, wN, List.foldl_cons, List.foldl_nil, List.set_cons_zero, List.set_cons_succ, frz, Int.ofNat_one, Int.cast_ofNat_Int, Int.reduceToNat, bYdaJ0]
    refine za4 (giving154 _ rfl) ?_
    simp -implicitDefEqProofs only [go_sem, *, stT, tab0, tab8, putAt, gN, gE, fx, wE, wN, List.foldl_cons, List.foldl_nil, List.set_cons_zero, List.set_cons_succ, za2, frz]
    refine za4 (fixed155 _ _ rfl rfl) ?_
    simp -implicitDefEqProofs only [go_sem, *, stT, tab0, tab8, putAt, gN, gE, fx, wE, wN, List.foldl_cons, List.foldl_nil, List.set_cons_zero, List.set_cons_succ, za2, frz]
    exact ⟨by omega, 5, by omega, by omega, by rw [zb7 (by omega) (by omega)]; rfl, St.le.refl _⟩
  simp -implicitDefEqProofs only [go_sem, *, stT, tab0, tab8, putAt, gN, gE, fx, wE, wN, List.foldl_cons, List.foldl_nil, List.set_cons_zero, List.set_cons_succ, frz, Int.ofNat_one, Int.cast_ofNat_Int, bYdaJ0]
  refine ⟨by rintro b rfl; simp [*], za4 (giving154 _ rfl) ?_⟩
  simp -implicitDefEqProofs only [go_sem, *, za2, frz]
  refine za4 (fixed155 _ _ rfl rfl) ?_
  simp -implicitDefEqProofs only [go_sem, *, za2, frz]
  refine ⟨by omega, za4 (giving154 _ rfl) ?_⟩
  simp -implicitDefEqProofs only [go_sem, *, za2, frz]
  refine za4 (fixed155 _ _ rfl rfl) ?_
  simp -implicitDefEqProofs only [go_sem, *, za2, frz]
  refine ⟨by omega, za4 (giving154 _ rfl) ?_⟩
  simp -implicitDefEqProofs only [go_sem, *, za2, frz]
  refine za4 (fixed155 _ _ rfl rfl) ?_
  simp -implicitDefEqProofs only [go_sem, *, za2, frz]
  refine ⟨by omega, by rintro b rfl; simp [*], za4 (giving154 _ rfl) ?_⟩
  simp -implicitDefEqProofs only [go_sem, *, za2, frz]
  refine za4 (fixed155 _ _ rfl rfl) ?_
  simp -implicitDefEqProofs only [go_sem, *, za2, frz]
  refine ⟨by omega, za4 (giving154 _ rfl) ?_⟩
  simp -implicitDefEqProofs only [go_sem, *, za2, frz]
  refine za4 (fixed155 _ _ rfl rfl) ?_
  simp -implicitDefEqProofs only [go_sem, *, za2, frz]
  refine ⟨by omega, za4 (fixed155 _ _ rfl rfl) ?_⟩
  simp -implicitDefEqProofs only [go_sem, *, za2, frz]
  refine ⟨by omega, by omega, by omega, za4 (classed161 _ rfl _) ?_⟩
  simp -implicitDefEqProofs only [go_sem, *, za2, frz]
  refine ⟨by omega, za4 (field162 _) ?_⟩
  simp -implicitDefEqProofs only [go_sem, *, za2, frz]
  refine ⟨by omega, za4 (field162 _) ?_⟩
  simp -implicitDefEqProofs only [go_sem, *, za2, frz]
  refine ⟨by omega, by rintro b rfl; simp [*], za4 (giving154 _ rfl) ?_⟩
  simp -implicitDefEqProofs only [go_sem, *, za2, frz]
  refine za4 (fixed155 _ _ rfl rfl) ?_
  simp -implicitDefEqProofs only [go_sem, *, za2, frz]
  refine ⟨by omega, by rintro b rfl; simp [*], za4 (giving154 _ rfl) ?_⟩
  simp -implicitDefEqProofs only [go_sem, *, za2, frz]
  refine za4 (fixed155 _ _ rfl rfl) ?_
  simp -implicitDefEqProofs only [go_sem, *, za2, frz]
  refine ⟨by omega, by intro b hb; rcases hb with rfl | rfl <;> simp [*], za4 (giving154 _ rfl) ?_⟩
  simp -implicitDefEqProofs only [go_sem, *, za2, frz]
  refine za4 (fixed155 _ _ rfl rfl) ?_
  simp -implicitDefEqProofs only [go_sem, *, za2, frz]
  refine ⟨by omega, za4 (fixed155 _ _ rfl rfl) ?_⟩
  simp -implicitDefEqProofs only [go_sem, *, za2, frz]
  refine ⟨by omega, za4 (classed161 _ rfl _) ?_⟩
  simp -implicitDefEqProofs only [go_sem, *, za2, frz]
  refine ⟨by omega, za4 (classed161 _ rfl _) ?_⟩
  simp -implicitDefEqProofs only [go_sem, *, za2, frz]
  refine ⟨by omega, za4 (fixed155 _ _ rfl rfl) ?_⟩
  simp -implicitDefEqProofs only [go_sem, *, za2, frz]
  refine ⟨by omega, _, _, DLe.refl _, St.le.refl _, FLe.agg ?_⟩
  simp only [tblL, List.map_cons, List.map_nil, eTl, eG, rws, wi, wb, wr, eW, eT]
  repeat' first
    | exact FLes.nil
    | refine FLes.cons ?_ ?_
    | exact FLe.of (DLe.refl _)
    | exact FLe.of (DLe.func .nil (.cons (DLe.eptr (.cons (DLe.slice _ _) .nil)) (.cons (DLe.eptr (.cons (DLe.func .nil (.cons (DLe.eptr (.cons (DLe.slice _ _) .nil)) .nil)) .nil)) .nil)))
    | exact FLe.of (DLe.func .nil (.cons (DLe.eptr (.cons (DLe.slice _ _) .nil)) (.cons (.refl _) .nil)))
    | exact FLe.of (DLe.func .nil (.cons (.refl _) (.cons (DLe.eptr (.cons (DLe.slice _ _) .nil)) .nil)))
  refine FLe.func .nil (.cons (FLe.box (cs := [.func (.func 242) [] [.eptr [.slice .nil []]]]) ?_ (.cons (FLe.of (DLe.func .nil (.cons (DLe.eptr (.cons (DLe.slice _ _) .nil)) .nil))) .nil)) .nil)
  simp [St.set_box, *]
open Go.Proofs
def canB (e : En) : Bool := decide ((checkL isWordB e.cs).2 = 0 ∧ e.sgs.length ≤ 64 ∧ 0 ≤ e.fn ∧ e.fn < e.sgs.length) && e.sgs.all (sigMayB e.cs.length)
theorem odd122 (e : En) (t : Ty) (b : Nat) (σ : St) (hb : σ.box b = some (eEn e)) :
    RCall Tryz.prog 208 [.int .u8 t.val, .ptr b 0] σ fun d s' => d = .bool (storedN e.cs.length t) ∧ s' = σ := by
  refine F208.rcall rfl fun T hT => ?_
  simp -implicitDefEqProofs only [go_sem, c208, hT, hb, eEn]
  refine za4 (valid105 e.cs .no t) ?_
  simp -implicitDefEqProofs only [go_sem, mmB, hT]
  refine ⟨_, σ, DLe.refl _, St.le.refl _, ?_, rfl⟩
  rw [D.bool.injEq, Bool.eq_iff_iff]
  simp only [storedN, Bool.and_eq_true, Bool.not_eq_true', decide_eq_false_iff_not, decide_eq_true_eq]
  constructor
  · rintro ⟨⟨h1, h2⟩, h3⟩; exact ⟨h1, by omega, by omega⟩
  · rintro ⟨h1, h2, h3⟩; exact ⟨⟨h1, by omega⟩, by omega⟩
theorem refStored112 (l : List Cl) (o : Own) (t : Ty) : zf9 Tryz.prog 101 [.slice o (rws eC l), .int .u8 t.val] (.bool (storedN l.length t)) := by
  refine F101.pcall' rfl fun T hT => ?_
  simp -implicitDefEqProofs only [go_sem, c101, hT]
  refine za4 (refValid87 l o t) ?_
  simp -implicitDefEqProofs only [go_sem, mmB, hT]
  refine zc2 ?_
  rw [Bool.eq_iff_iff]
  simp only [storedN, Bool.and_eq_true, Bool.not_eq_true', decide_eq_false_iff_not, decide_eq_true_eq]
  constructor
  · rintro ⟨⟨h1, h2⟩, h3⟩; exact ⟨h1, by omega, by omega⟩
  · rintro ⟨h1, h2, h3⟩; exact ⟨⟨h1, by omega⟩, by omega⟩
def wid (op : Nat) : Nat × Nat := if op = 1 then (4, 0) else if op = 19 ∨ op = 20 then (2, 0) else if op = 24 ∨ op = 25 then (1, 1) else if op = 2 ∨ op = 4 ∨ op = 5 ∨ op = 21 ∨ op = 23 ∨ op = 30 ∨ op = 31 ∨ op = 32 then (1, 0) else (0, 0)
def sizeOp (op : Nat) : Nat := if 34 ≤ op then 0 else 1 + (wid op).1 + (wid op).2
theorem wid_at (t : Ty) (k : Nat) (p : Nat × Nat) (h : t.val = k) (hp : wid k = p) : wid t.val = p := by rw [h, hp]
theorem wid_no (t : Ty) (h1 : t.val ≠ 1) (h2 : t.val ≠ 19) (h3 : t.val ≠ 20) (h4 : t.val ≠ 24) (h5 : t.val ≠ 25) (h6 : t.val ≠ 2) (h7 : t.val ≠ 4) (h8 : t.val ≠ 5) (h9 : t.val ≠ 21) (h10 : t.val ≠ 23) (h11 : t.val ≠ 30) (h12 : t.val ≠ 31) (h13 : t.val ≠ 32) : wid t.val = (0, 0) := by
  rw [wid, if_neg h1, if_neg (by omega), if_neg (by omega), if_neg (by omega)]
theorem wid_le (n : Nat) : (wid n).1 ≤ 4 ∧ (wid n).2 ≤ 1 := by
  unfold wid; repeat' split
  all_goals simp
theorem widths152 (t : Ty) : zf9 Tryz.prog 128 [.int .u8 t.val] (.tup [.int .i64 (wid t.val).1, .int .i64 (wid t.val).2]) := by
  refine F128.pcall' rfl fun T hT => ?_
  by_cases h1 : (t.val : Int) = 1
  · rw [wid_at t 1 (4, 0) (by omega) rfl]
    simp -implicitDefEqProofs only [go_sem, c128, hT, h1]
    exact DLe.of_eq rfl
  by_cases h19 : (t.val : Int) = 19
  · rw [wid_at t 19 (2, 0) (by omega) rfl]
    simp -implicitDefEqProofs only [go_sem, c128, hT, h19]
    exact DLe.of_eq rfl
  by_cases h20 : (t.val : Int) = 20
  · rw [wid_at t 20 (2, 0) (by omega) rfl]
    simp -implicitDefEqProofs only [go_sem, c128, hT, h20]
    exact DLe.of_eq rfl
  by_cases h24 : (t.val : Int) = 24
  · rw [wid_at t 24 (1, 1) (by omega) rfl]
    simp -implicitDefEqProofs only [go_sem, c128, hT, h24]
    exact DLe.of_eq rfl
  by_cases h25 : (t.val : Int) = 25
  · rw [wid_at t 25 (1, 1) (by omega) rfl]
    simp -implicitDefEqProofs only [go_sem, c128, hT, h25]
    exact DLe.of_eq rfl
  by_cases h2 : (t.val : Int) = 2
  · rw [wid_at t 2 (1, 0) (by omega) rfl]
    simp -implicitDefEqProofs only [go_sem, c128, hT, h2]
    exact DLe.of_eq rfl
  by_cases h4 : (t.val : Int) = 4
  · rw [wid_at t 4 (1, 0) (by omega) rfl]
    simp -implicitDefEqProofs only [go_sem, c128, hT, h4]
    exact DLe.of_eq rfl
  by_cases h5 : (t.val : Int) = 5
  · rw [wid_at t 5 (1, 0) (by omega) rfl]
    simp -implicitDefEqProofs only [go_sem, c128, hT, h5]
    exact DLe.of_eq rfl
  by_cases h21 : (t.val : Int) = 21
  · rw [wid_at t 21 (1, 0) (by omega) rfl]
    simp -implicitDefEqProofs only [go_sem, c128, hT, h21]
    exact DLe.of_eq rfl
  by_cases h23 : (t.val : Int) = 23
  · rw [wid_at t 23 (1, 0) (by omega) rfl]
    simp -implicitDefEqProofs only [go_sem, c128, hT, h23]
    exact DLe.of_eq rfl
  by_cases h30 : (t.val : Int) = 30
  · rw [wid_at t 30 (1, 0) (by omega) rfl]
    simp -implicitDefEqProofs only [go_sem, c128, hT, h30]
    exact DLe.of_eq rfl
  by_cases h31 : (t.val : Int) = 31
  · rw [wid_at t 31 (1, 0) (by omega) rfl]
    simp -implicitDefEqProofs only [go_sem, c128, hT, h31]
    exact DLe.of_eq rfl
  by_cases h32 : (t.val : Int) = 32
  · rw [wid_at t 32 (1, 0) (by omega) rfl]
    simp -implicitDefEqProofs only [go_sem, c128, hT, h32]
    exact DLe.of_eq rfl
  rw [wid_no t (by omega) (by omega) (by omega) (by omega) (by omega) (by omega) (by omega) (by omega) (by omega) (by omega) (by omega) (by omega) (by omega)]
  simp -implicitDefEqProofs only [go_sem, c128, hT, h1, h19, h20, h24, h25, h2, h4, h5, h21, h23, h30, h31, h32]
  exact DLe.of_eq rfl
theorem wide113 (t : Ty) : zf9 Tryz.prog 63 [.int .u8 t.val] (.tup [.int .i64 (wid t.val).1, .int .i64 (wid t.val).2]) := by
  refine F63.pcall' rfl fun T hT => ?_
  by_cases h1 : (t.val : Int) = 1
  · rw [wid_at t 1 (4, 0) (by omega) rfl]
    simp -implicitDefEqProofs only [go_sem, c63, hT, h1]
    exact DLe.of_eq rfl
  by_cases h19 : (t.val : Int) = 19
  · rw [wid_at t 19 (2, 0) (by omega) rfl]
    simp -implicitDefEqProofs only [go_sem, c63, hT, h19]
    exact DLe.of_eq rfl
  by_cases h20 : (t.val : Int) = 20
  · rw [wid_at t 20 (2, 0) (by omega) rfl]
    simp -implicitDefEqProofs only [go_sem, c63, hT, h20]
    exact DLe.of_eq rfl
  by_cases h24 : (t.val : Int) = 24
  · rw [wid_at t 24 (1, 1) (by omega) rfl]
    simp -implicitDefEqProofs only [go_sem, c63, hT, h24]
    exact DLe.of_eq rfl
  by_cases h25 : (t.val : Int) = 25
  · rw [wid_at t 25 (1, 1) (by omega) rfl]
    simp -implicitDefEqProofs only [go_sem, c63, hT, h25]
    exact DLe.of_eq rfl
  by_cases h2 : (t.val : Int) = 2
  · rw [wid_at t 2 (1, 0) (by omega) rfl]
    simp -implicitDefEqProofs only [go_sem, c63, hT, h2]
    exact DLe.of_eq rfl
  by_cases h4 : (t.val : Int) = 4
  · rw [wid_at t 4 (1, 0) (by omega) rfl]
    simp -implicitDefEqProofs only [go_sem, c63, hT, h4]
    exact DLe.of_eq rfl
  by_cases h5 : (t.val : Int) = 5
  · rw [wid_at t 5 (1, 0) (by omega) rfl]
    simp -implicitDefEqProofs only [go_sem, c63, hT, h5]
    exact DLe.of_eq rfl
  by_cases h21 : (t.val : Int) = 21
  · rw [wid_at t 21 (1, 0) (by omega) rfl]
    simp -implicitDefEqProofs only [go_sem, c63, hT, h21]
    exact DLe.of_eq rfl
  by_cases h23 : (t.val : Int) = 23
  · rw [wid_at t 23 (1, 0) (by omega) rfl]
    simp -implicitDefEqProofs only [go_sem, c63, hT, h23]
    exact DLe.of_eq rfl
  by_cases h30 : (t.val : Int) = 30
  · rw [wid_at t 30 (1, 0) (by omega) rfl]
    simp -implicitDefEqProofs only [go_sem, c63, hT, h30]
    exact DLe.of_eq rfl
  by_cases h31 : (t.val : Int) = 31
  · rw [wid_at t 31 (1, 0) (by omega) rfl]
    simp -implicitDefEqProofs only [go_sem, c63, hT, h31]
    exact DLe.of_eq rfl
  by_cases h32 : (t.val : Int) = 32
  · rw [wid_at t 32 (1, 0) (by omega) rfl]
    simp -implicitDefEqProofs only [go_sem, c63, hT, h32]
    exact DLe.of_eq rfl
  rw [wid_no t (by omega) (by omega) (by omega) (by omega) (by omega) (by omega) (by omega) (by omega) (by omega) (by omega) (by omega) (by omega) (by omega)]
  simp -implicitDefEqProofs only [go_sem, c63, hT, h1, h19, h20, h24, h25, h2, h4, h5, h21, h23, h30, h31, h32]
  exact DLe.of_eq rfl
theorem size125 (t : Ty) : zf9 Tryz.prog 84 [.int .u8 t.val] (.int .i64 (sizeOp t.val)) := by
  refine F84.pcall' rfl fun T hT => ?_
  have hw := wid_le t.val
  by_cases h : (34 : Int) ≤ t.val
  · simp -implicitDefEqProofs only [go_sem, c84, hT, h]
    exact DLe.of_eq (by rw [sizeOp, if_pos (by omega)]; rfl)
  · simp -implicitDefEqProofs only [go_sem, c84, hT, h]
    refine za4 (widths152 t) ?_
    simp -implicitDefEqProofs only [go_sem, hT]
    refine DLe.of_eq ?_
    rw [sizeOp, if_neg (by omega), zb7 (n := 1 + ((wid t.val).1 : Int)) (by omega) (by omega), zb7 (by omega) (by omega)]
    simp
theorem refSize74 (t : Ty) : zf9 Tryz.prog 20 [.int .u8 t.val] (.int .i64 (sizeOp t.val)) := by
  refine F20.pcall' rfl fun T hT => ?_
  have hw := wid_le t.val
  by_cases h : (34 : Int) ≤ t.val
  · simp -implicitDefEqProofs only [go_sem, c20, hT, h]
    exact DLe.of_eq (by rw [sizeOp, if_pos (by omega)]; rfl)
  · simp -implicitDefEqProofs only [go_sem, c20, hT, h]
    refine za4 (wide113 t) ?_
    simp -implicitDefEqProofs only [go_sem, hT]
    refine DLe.of_eq ?_
    rw [sizeOp, if_neg (by omega), zb7 (n := 1 + ((wid t.val).1 : Int)) (by omega) (by omega), zb7 (by omega) (by omega)]
    simp
open Go.Proofs
theorem sigMay_all {c : Nat} {s : Sg} (h8 : s.ps.length ≤ 8) (hr : s.r.val = 0 ∨ storedN c s.r = true) (hp : (s.ps.any fun t => !storedN c t) = false) : sigMayB c s = true := by
  rw [sigMayB, hp]
  simp only [h8, decide_true, Bool.not_false, Bool.and_self, Bool.true_and, Bool.or_eq_true, decide_eq_true_eq]
  exact hr
theorem environment80 (e : En) (hw : WideE e) : zf9 Tryz.prog 172 [.agg (eEn e)] (.bool (canB e)) := by
  obtain ⟨hw1, hw2, hw3⟩ := hw
  refine F172.pcall' rfl fun T hT => ?_
  simp -implicitDefEqProofs only [go_sem, c172, hT, eEn]
  intro b1
  refine za4 (check64 e.cs .no hw1) ?_
  by_cases hh : (checkL isWordB e.cs).2 = 0 ∧ e.sgs.length ≤ 64 ∧ 0 ≤ e.fn ∧ e.fn < e.sgs.length
  case neg =>
    have hcan : canB e = false := by rw [canB, decide_eq_false hh]; rfl
    have hf : (!decide (((checkL isWordB e.cs).2 : Int) = 0) || decide ((64 : Int) < e.sgs.length) || decide (e.fn < 0) || decide ((e.sgs.length : Int) ≤ e.fn)) = true := by
      simp only [Bool.or_eq_true, Bool.not_eq_true', decide_eq_false_iff_not, decide_eq_true_eq]; omega
    simp -implicitDefEqProofs only [go_sem, mmB, hT, eEn, hf]
    exact zc2 hcan.symm
  have hf : (!decide (((checkL isWordB e.cs).2 : Int) = 0) || decide ((64 : Int) < e.sgs.length) || decide (e.fn < 0) || decide ((e.sgs.length : Int) ≤ e.fn)) = false := by
    rw [← Bool.not_eq_true]
    simp only [Bool.or_eq_true, Bool.not_eq_true', decide_eq_false_iff_not, decide_eq_true_eq]; omega
  have hcan : canB e = e.sgs.all (sigMayB e.cs.length) := by rw [canB, decide_eq_true hh]; rfl
  simp -implicitDefEqProofs only [go_sem, mmB, hT, eEn, hf]
  rw [hcan]
  refine loopL F172 (fun i : Nat => [(1, .ptr b1 0), (5, .func (.func 208) [] [.ptr b1 0]), (39, .slice .no (rws eSg e.sgs)), (40, .int .i64 e.sgs.length), (41, .int .i64 i)]) (fun _ => ({} : St).set b1 (eEn e)) (fun i => i ≤ e.sgs.length ∧ (e.sgs.take i).all (sigMayB e.cs.length) = true) (fun i => e.sgs.length - i) 0
    ⟨Nat.zero_le _, rfl⟩ ?_ (St.le.refl _) ?_
  · simp -implicitDefEqProofs only [go_sem, hT, Int.ofNat_zero]
  clear hT T
  rintro i ⟨hi, hok⟩ T hT
  by_cases h2 : i < e.sgs.length
  · have h3 : ((i : Int) < e.sgs.length) = True := by simp; omega
    have hR : (rws eSg e.sgs)[i]?.getD [] = eSg e.sgs[i] := rws_at h2
    have htake : e.sgs.take (i + 1) = e.sgs.take i ++ [e.sgs[i]] := List.take_succ_eq_append_getElem h2
    have hwf := hw3 e.sgs[i] (by simp)
    have hin : e.sgs[i] ∈ e.sgs := by simp
    generalize e.sgs[i] = s at *
    have bad : sigMayB e.cs.length s = false → DLe (.bool false) (.bool (e.sgs.all (sigMayB e.cs.length))) := fun h => zc2 (by
      cases hh : e.sgs.all (sigMayB e.cs.length) with
      | false => rfl
      | true => rw [List.all_eq_true.1 hh s hin] at h; cases h)
    simp -implicitDefEqProofs only [go_sem, hT, h3, hR, eSg]
    refine ⟨by omega, fun b7 n1 n2 => ?_⟩
    by_cases h8 : (8 : Int) < s.ps.length
    · simp -implicitDefEqProofs only [go_sem, hT, h3, eSg, n1, n2, za2, h8]
      exact bad (by rw [sigMayB, decide_eq_false (by omega)]; rfl)
    have hb2 : ((({} : St).set b1 (eEn e)).set b7 (eSg s)).box b1 = some (eEn e) := by simp [St.set_box, n2]
    by_cases h0 : (s.r.val : Int) = 0
    · simp -implicitDefEqProofs only [go_sem, hT, h3, eSg, eEn, n1, n2, za2, h8, h0]
      refine loopL F172 (fun j : Nat => [(1, .ptr b1 0), (5, .func (.func 208) [] [.ptr b1 0]), (39, .slice .no (rws eSg e.sgs)), (40, .int .i64 e.sgs.length), (41, .int .i64 i), (62, .slice .no (rws eT s.ps)), (63, .int .i64 s.ps.length), (64, .int .i64 j)]) (fun _ => ({} : St).set b1 (eEn e)) (fun j => j ≤ s.ps.length ∧ (s.ps.take j).any (fun t => !storedN e.cs.length t) = false) (fun j => s.ps.length - j) 0
        ⟨Nat.zero_le _, rfl⟩ ?_ (le_add (by simp [has_set, has_nil]; omega)) ?_
      · simp -implicitDefEqProofs only [go_sem, hT, Int.ofNat_zero]
      clear hT T
      rintro j ⟨hj, hjo⟩ T hT
      by_cases j2 : j < s.ps.length
      · have j3 : ((j : Int) < s.ps.length) = True := by simp; omega
        have hRt : (rws eT s.ps)[j]?.getD [] = eT s.ps[j] := rws_at j2
        have htk : s.ps.take (j + 1) = s.ps.take j ++ [s.ps[j]] := List.take_succ_eq_append_getElem j2
        have htin : s.ps[j] ∈ s.ps := by simp
        generalize s.ps[j] = t at *
        simp -implicitDefEqProofs only [go_sem, hT, j3, hRt, eT, eT_len, eEn]
        refine ⟨by omega, ?_⟩
        refine callB_all (odd122 e t b1 _ (by simp [St.set_box, eEn])) ?_
        rintro d s' ⟨rfl, rfl⟩
        cases hst : storedN e.cs.length t
        · simp -implicitDefEqProofs only [go_sem, hT]
          exact bad (by rw [sigMayB, List.any_eq_true.2 ⟨t, htin, by simp [hst]⟩]; simp)
        · simp -implicitDefEqProofs only [go_sem, hT]
          refine ⟨j + 1, ⟨by omega, by rw [htk, List.any_append, hjo]; simp [hst]⟩, by omega, ?_, St.le.refl _⟩
          rw [zb7 (by omega) (by omega)]; simp
      · have j3 : ((j : Int) < s.ps.length) = False := by simp; omega
        rw [List.take_of_length_le (by omega)] at hjo
        simp -implicitDefEqProofs only [go_sem, hT, j3]
        refine ⟨i + 1, ⟨by omega, by rw [htake, List.all_append, hok]; simp [sigMay_all (show s.ps.length ≤ 8 by omega) (.inl (by omega)) hjo]⟩, by omega, ?_, St.le.refl _⟩
        rw [zb7 (by omega) (by omega)]; simp
    · simp -implicitDefEqProofs only [go_sem, hT, h3, eSg, eEn, n1, n2, za2, h8, h0]
      refine callB_all (odd122 e s.r b1 _ hb2) ?_
      rintro d s' ⟨rfl, rfl⟩
      cases hsr : storedN e.cs.length s.r
      · simp -implicitDefEqProofs only [go_sem, hT, eSg, eEn, n1, n2]
        exact bad (by rw [sigMayB, hsr, decide_eq_false (show ¬ s.r.val = 0 by omega)]; simp)
      simp -implicitDefEqProofs only [go_sem, hT, eSg, eEn, n1, n2]
      refine loopL F172 (fun j : Nat => [(1, .ptr b1 0), (5, .func (.func 208) [] [.ptr b1 0]), (39, .slice .no (rws eSg e.sgs)), (40, .int .i64 e.sgs.length), (41, .int .i64 i), (62, .slice .no (rws eT s.ps)), (63, .int .i64 s.ps.length), (64, .int .i64 j)]) (fun _ => ({} : St).set b1 (eEn e)) (fun j => j ≤ s.ps.length ∧ (s.ps.take j).any (fun t => !storedN e.cs.length t) = false) (fun j => s.ps.length - j) 0
        ⟨Nat.zero_le _, rfl⟩ ?_ (le_add (by simp [has_set, has_nil]; omega)) ?_
      · simp -implicitDefEqProofs only [go_sem, hT, Int.ofNat_zero]
      clear hT T
      rintro j ⟨hj, hjo⟩ T hT
      by_cases j2 : j < s.ps.length
      · have j3 : ((j : Int) < s.ps.length) = True := by simp; omega
        have hRt : (rws eT s.ps)[j]?.getD [] = eT s.ps[j] := rws_at j2
        have htk : s.ps.take (j + 1) = s.ps.take j ++ [s.ps[j]] := List.take_succ_eq_append_getElem j2
        have htin : s.ps[j] ∈ s.ps := by simp
        generalize s.ps[j] = t at *
        simp -implicitDefEqProofs only [go_sem, hT, j3, hRt, eT, eT_len, eEn]
        refine ⟨by omega, ?_⟩
        refine callB_all (odd122 e t b1 _ (by simp [St.set_box, eEn])) ?_
        rintro d s' ⟨rfl, rfl⟩
        cases hst : storedN e.cs.length t
        · simp -implicitDefEqProofs only [go_sem, hT]
          exact bad (by rw [sigMayB, List.any_eq_true.2 ⟨t, htin, by simp [hst]⟩]; simp)
        · simp -implicitDefEqProofs only [go_sem, hT]
          refine ⟨j + 1, ⟨by omega, by rw [htk, List.any_append, hjo]; simp [hst]⟩, by omega, ?_, St.le.refl _⟩
          rw [zb7 (by omega) (by omega)]; simp
      · have j3 : ((j : Int) < s.ps.length) = False := by simp; omega
        rw [List.take_of_length_le (by omega)] at hjo
        simp -implicitDefEqProofs only [go_sem, hT, j3]
        refine ⟨i + 1, ⟨by omega, by rw [htake, List.all_append, hok]; simp [sigMay_all (show s.ps.length ≤ 8 by omega) (.inr hsr) hjo]⟩, by omega, ?_, St.le.refl _⟩
        rw [zb7 (by omega) (by omega)]; simp
  · have h3 : ((i : Int) < e.sgs.length) = False := by simp; omega
    rw [List.take_of_length_le (by omega)] at hok
    simp -implicitDefEqProofs only [go_sem, hT, h3]
    exact zc2 hok.symm
theorem can73 (e : En) (hw : WideE e) : zf9 Tryz.prog 58 [.agg (eEn e)] (.bool (canB e)) := by
  obtain ⟨hw1, hw2, hw3⟩ := hw
  refine F58.pcall' rfl fun T hT => ?_
  simp -implicitDefEqProofs only [go_sem, c58, hT, eEn]
  intro b1
  refine za4 (refCheck69 e.cs .no hw1) ?_
  by_cases hz : (checkL isWordB e.cs).2 = 0
  case neg =>
    have hcan : canB e = false := by rw [canB, decide_eq_false (by omega)]; rfl
    have hz' : ((((checkL isWordB e.cs).2 : Nat) : Int) = 0) = False := by simp; omega
    simp -implicitDefEqProofs only [go_sem, hT, eEn, hz']
    exact zc2 hcan.symm
  have hz' : ((((checkL isWordB e.cs).2 : Nat) : Int) = 0) = True := by simp; omega
  by_cases hh : e.sgs.length ≤ 64 ∧ 0 ≤ e.fn ∧ e.fn < e.sgs.length
  case neg =>
    have hcan : canB e = false := by rw [canB, decide_eq_false (by omega)]; rfl
    have hf : (decide ((64 : Int) < e.sgs.length) || decide (e.fn < 0) || decide ((e.sgs.length : Int) ≤ e.fn)) = true := by
      simp only [Bool.or_eq_true, decide_eq_true_eq]; omega
    simp -implicitDefEqProofs only [go_sem, hT, eEn, hz']
    simp -implicitDefEqProofs only [go_sem, mmB, hT, eEn, hf]
    exact zc2 hcan.symm
  have hf : (decide ((64 : Int) < e.sgs.length) || decide (e.fn < 0) || decide ((e.sgs.length : Int) ≤ e.fn)) = false := by
    rw [← Bool.not_eq_true]
    simp only [Bool.or_eq_true, decide_eq_true_eq]; omega
  have hcan : canB e = e.sgs.all (sigMayB e.cs.length) := by rw [canB, decide_eq_true (by omega)]; rfl
  simp -implicitDefEqProofs only [go_sem, hT, eEn, hz']
  simp -implicitDefEqProofs only [go_sem, mmB, hT, eEn, hf]
  rw [hcan]
  refine loopL F58 (fun i : Nat => [(1, .ptr b1 0), (35, .slice .no (rws eSg e.sgs)), (36, .int .i64 e.sgs.length), (37, .int .i64 i)]) (fun _ => ({} : St).set b1 (eEn e)) (fun i => i ≤ e.sgs.length ∧ (e.sgs.take i).all (sigMayB e.cs.length) = true) (fun i => e.sgs.length - i) 0
    ⟨Nat.zero_le _, rfl⟩ ?_ (St.le.refl _) ?_
  · simp -implicitDefEqProofs only [go_sem, hT, Int.ofNat_zero]
  clear hT T
  rintro i ⟨hi, hok⟩ T hT
  by_cases h2 : i < e.sgs.length
  · have h3 : ((i : Int) < e.sgs.length) = True := by simp; omega
    have hR : (rws eSg e.sgs)[i]?.getD [] = eSg e.sgs[i] := rws_at h2
    have htake : e.sgs.take (i + 1) = e.sgs.take i ++ [e.sgs[i]] := List.take_succ_eq_append_getElem h2
    have hwf := hw3 e.sgs[i] (by simp)
    have hin : e.sgs[i] ∈ e.sgs := by simp
    generalize e.sgs[i] = s at *
    have bad : sigMayB e.cs.length s = false → DLe (.bool false) (.bool (e.sgs.all (sigMayB e.cs.length))) := fun h => zc2 (by
      cases hh : e.sgs.all (sigMayB e.cs.length) with
      | false => rfl
      | true => rw [List.all_eq_true.1 hh s hin] at h; cases h)
    simp -implicitDefEqProofs only [go_sem, hT, h3, hR, eSg]
    refine ⟨by omega, fun b7 n1 n2 => ?_⟩
    by_cases h8 : (8 : Int) < s.ps.length
    · simp -implicitDefEqProofs only [go_sem, hT, h3, eSg, n1, n2, za2, h8]
      exact bad (by rw [sigMayB, decide_eq_false (by omega)]; rfl)
    have hb2 : ((({} : St).set b1 (eEn e)).set b7 (eSg s)).box b1 = some (eEn e) := by simp [St.set_box, n2]
    by_cases h0 : (s.r.val : Int) = 0
    · simp -implicitDefEqProofs only [go_sem, hT, h3, eSg, eEn, n1, n2, za2, h8, h0]
      refine loopL F58 (fun j : Nat => [(1, .ptr b1 0), (35, .slice .no (rws eSg e.sgs)), (36, .int .i64 e.sgs.length), (37, .int .i64 i), (59, .slice .no (rws eT s.ps)), (60, .int .i64 s.ps.length), (61, .int .i64 j)]) (fun _ => ({} : St).set b1 (eEn e)) (fun j => j ≤ s.ps.length ∧ (s.ps.take j).any (fun t => !storedN e.cs.length t) = false) (fun j => s.ps.length - j) 0
        ⟨Nat.zero_le _, rfl⟩ ?_ (le_add (by simp [has_set, has_nil]; omega)) ?_
      · simp -implicitDefEqProofs only [go_sem, hT, Int.ofNat_zero]
      clear hT T
      rintro j ⟨hj, hjo⟩ T hT
      by_cases j2 : j < s.ps.length
      · have j3 : ((j : Int) < s.ps.length) = True := by simp; omega
        have hRt : (rws eT s.ps)[j]?.getD [] = eT s.ps[j] := rws_at j2
        have htk : s.ps.take (j + 1) = s.ps.take j ++ [s.ps[j]] := List.take_succ_eq_append_getElem j2
        have htin : s.ps[j] ∈ s.ps := by simp
        generalize s.ps[j] = t at *
        simp -implicitDefEqProofs only [go_sem, hT, j3, hRt, eT, eT_len, eEn]
        refine ⟨by omega, ?_⟩
        refine za4 (refStored112 e.cs .no t) ?_
        cases hst : storedN e.cs.length t
        · simp -implicitDefEqProofs only [go_sem, hT]
          exact bad (by rw [sigMayB, List.any_eq_true.2 ⟨t, htin, by simp [hst]⟩]; simp)
        · simp -implicitDefEqProofs only [go_sem, hT]
          refine ⟨j + 1, ⟨by omega, by rw [htk, List.any_append, hjo]; simp [hst]⟩, by omega, ?_, St.le.refl _⟩
          rw [zb7 (by omega) (by omega)]; simp
      · have j3 : ((j : Int) < s.ps.length) = False := by simp; omega
        rw [List.take_of_length_le (by omega)] at hjo
        simp -implicitDefEqProofs only [go_sem, hT, j3]
        refine ⟨i + 1, ⟨by omega, by rw [htake, List.all_append, hok]; simp [sigMay_all (show s.ps.length ≤ 8 by omega) (.inl (by omega)) hjo]⟩, by omega, ?_, St.le.refl _⟩
        rw [zb7 (by omega) (by omega)]; simp
    · simp -implicitDefEqProofs only [go_sem, hT, h3, eSg, eEn, n1, n2, za2, h8, h0]
      refine za4 (refStored112 e.cs .no s.r) ?_
      cases hsr : storedN e.cs.length s.r
      · simp -implicitDefEqProofs only [go_sem, hT, eSg, eEn, n1, n2]
        exact bad (by rw [sigMayB, hsr, decide_eq_false (show ¬ s.r.val = 0 by omega)]; simp)
      simp -implicitDefEqProofs only [go_sem, hT, eSg, eEn, n1, n2]
      refine loopL F58 (fun j : Nat => [(1, .ptr b1 0), (35, .slice .no (rws eSg e.sgs)), (36, .int .i64 e.sgs.length), (37, .int .i64 i), (59, .slice .no (rws eT s.ps)), (60, .int .i64 s.ps.length), (61, .int .i64 j)]) (fun _ => ({} : St).set b1 (eEn e)) (fun j => j ≤ s.ps.length ∧ (s.ps.take j).any (fun t => !storedN e.cs.length t) = false) (fun j => s.ps.length - j) 0
        ⟨Nat.zero_le _, rfl⟩ ?_ (le_add (by simp [has_set, has_nil]; omega)) ?_
      · simp -implicitDefEqProofs only [go_sem, hT, Int.ofNat_zero]
      clear hT T
      rintro j ⟨hj, hjo⟩ T hT
      by_cases j2 : j < s.ps.length
      · have j3 : ((j : Int) < s.ps.length) = True := by simp; omega
        have hRt : (rws eT s.ps)[j]?.getD [] = eT s.ps[j] := rws_at j2
        have htk : s.ps.take (j + 1) = s.ps.take j ++ [s.ps[j]] := List.take_succ_eq_append_getElem j2
        have htin : s.ps[j] ∈ s.ps := by simp
        generalize s.ps[j] = t at *
        simp -implicitDefEqProofs only [go_sem, hT, j3, hRt, eT, eT_len, eEn]
        refine ⟨by omega, ?_⟩
        refine za4 (refStored112 e.cs .no t) ?_
        cases hst : storedN e.cs.length t
        · simp -implicitDefEqProofs only [go_sem, hT]
          exact bad (by rw [sigMayB, List.any_eq_true.2 ⟨t, htin, by simp [hst]⟩]; simp)
        · simp -implicitDefEqProofs only [go_sem, hT]
          refine ⟨j + 1, ⟨by omega, by rw [htk, List.any_append, hjo]; simp [hst]⟩, by omega, ?_, St.le.refl _⟩
          rw [zb7 (by omega) (by omega)]; simp
      · have j3 : ((j : Int) < s.ps.length) = False := by simp; omega
        rw [List.take_of_length_le (by omega)] at hjo
        simp -implicitDefEqProofs only [go_sem, hT, j3]
        refine ⟨i + 1, ⟨by omega, by rw [htake, List.all_append, hok]; simp [sigMay_all (show s.ps.length ≤ 8 by omega) (.inr hsr) hjo]⟩, by omega, ?_, St.le.refl _⟩
        rw [zb7 (by omega) (by omega)]; simp
  · have h3 : ((i : Int) < e.sgs.length) = False := by simp; omega
    rw [List.take_of_length_le (by omega)] at hok
    simp -implicitDefEqProofs only [go_sem, hT, h3]
    exact zc2 hok.symm
open Go.Proofs
def tellF (e : En) (i : Ins) : Tl → Ef × Nat
  | .no => (ef0, 0)
  | .fixed ws g => (⟨ws, g⟩, 0)
  | .call => if h : 0 ≤ i.a ∧ i.a.toNat < e.sgs.length then (⟨e.sgs[i.a.toNat].ps.map fun t => ⟨4, t⟩, .const (if e.sgs[i.a.toNat].r.val = 0 then [] else [e.sgs[i.a.toNat].r])⟩, 0) else (ef0, 71)
  | .ret => if h : e.fn.toNat < e.sgs.length then (⟨if e.sgs[e.fn.toNat].r.val = 0 then [] else [⟨4, e.sgs[e.fn.toNat].r⟩], .const []⟩, 0) else (ef0, 0)
  | .classed ws c => if i.a < 0 ∨ (e.cs.length : Int) ≤ i.a then (ef0, 72) else (⟨ws, .const [if c then ofClass i.a else 2]⟩, 0)
  | .field put => if h : (0 ≤ i.a ∧ i.a < e.cs.length) ∧ 0 ≤ i.b ∧ i.b.toNat < (ze5 e.cs (upI e.cs i.a).reverse).length then
      (if put = true then (⟨[⟨4, ofClass i.a⟩, ⟨4, ((ze5 e.cs (upI e.cs i.a).reverse)[i.b.toNat]'h.2.2).ty⟩], .const []⟩, 0)
        else (⟨[⟨4, ofClass i.a⟩], .const [((ze5 e.cs (upI e.cs i.a).reverse)[i.b.toNat]'h.2.2).ty]⟩, 0))
      else (ef0, 72)
def tlOf (op : Nat) : Tl := (tblL[op]?).getD .no
def toldF (e : En) (i : Ins) : Ef × Nat := if 34 ≤ i.op.val then (ef0, 40) else tellF e i (tlOf i.op.val)
theorem eEf_len (f : Ef) : (eEf f).length = 2 := rfl
theorem eEf_take (f : Ef) : (eEf f).take 2 = eEf f := rfl
theorem zb3 (i : Ins) : (eIn i).take 4 = eIn i := rfl
theorem za9 (e : En) : (eEn e).take 3 = eEn e := rfl
theorem tblL_no : ∀ k : Fin 34, tblL[k.val]? ≠ some .no := by
  intro k
  have : k.val = 0 ∨ k.val = 1 ∨ k.val = 2 ∨ k.val = 3 ∨ k.val = 4 ∨ k.val = 5 ∨ k.val = 6 ∨ k.val = 7 ∨ k.val = 8 ∨ k.val = 9 ∨ k.val = 10 ∨ k.val = 11 ∨ k.val = 12 ∨ k.val = 13 ∨ k.val = 14 ∨ k.val = 15 ∨ k.val = 16 ∨ k.val = 17 ∨ k.val = 18 ∨ k.val = 19 ∨ k.val = 20 ∨ k.val = 21 ∨ k.val = 22 ∨ k.val = 23 ∨ k.val = 24 ∨ k.val = 25 ∨ k.val = 26 ∨ k.val = 27 ∨ k.val = 28 ∨ k.val = 29 ∨ k.val = 30 ∨ k.val = 31 ∨ k.val = 32 ∨ k.val = 33 := by omega
  rcases this with h | h | h | h | h | h | h | h | h | h | h | h | h | h | h | h | h | h | h | h | h | h | h | h | h | h | h | h | h | h | h | h | h | h <;> rw [h] <;> simp [tblL]
theorem tl_at {op : Nat} (h : op < 34) : (tblL.map eTl)[op]? = some (eTl (tlOf op)) ∧ tlOf op ≠ .no := by
  have hl : op < tblL.length := h
  refine ⟨by simp [tlOf, hl], fun he => ?_⟩
  have := tblL_no ⟨op, h⟩
  simp only at this
  rw [List.getElem?_eq_getElem hl] at this
  simp only [tlOf, List.getElem?_eq_getElem hl, Option.getD_some] at he
  exact this (by rw [he])
theorem callK_tl {N : Nat} {d : Option Nat} {st : Bool} {K : Env → St → Prop} {Q : XA → Env → St → Prop} {T : Env} {σ : St} {B : List Nat} {e : En} {i : Ins} (hc : Can e) (tl : Tl) (hno : tl ≠ .no)
    (hk : putK N d (.tup [.agg (eEf (tellF e i tl).1), .int .i64 (tellF e i tl).2]) K T σ) : callK Tryz.prog N B st d (eTl tl) [.agg (eEn e), .agg (eIn i)] K Q T σ := by
  cases tl with
  | no => exact absurd rfl hno
  | fixed ws g => exact za4 (tell185 _ _ _ _ _ _ rfl rfl rfl rfl rfl (eG_cellQ g)) hk
  | call =>
    refine za4 (tell158 e i hc) ?_
    simp only [tellF] at hk
    split
    · rename_i h; rw [dif_pos h] at hk; exact hk
    · rename_i h; rw [dif_neg h] at hk; exact hk
  | ret =>
    refine za4 (tell159 e i _ (eG_cellQ _) hc.fn0 hc.fn1) ?_
    simp only [tellF, dif_pos hc.fn1] at hk
    exact hk
  | classed ws c =>
    refine za4 (tell186 e i _ c rfl hc.cls) ?_
    simp only [tellF] at hk
    split
    · rename_i h; rw [if_pos h] at hk; exact hk
    · rename_i h; rw [if_neg h] at hk; exact hk
  | field put =>
    refine za4 (tell188 e i put hc) ?_
    simp only [tellF] at hk
    split
    · rename_i h
      rw [dif_pos h] at hk
      cases put
      · simp only [Bool.false_eq_true, if_false] at hk ⊢; exact hk
      · simp only [if_true] at hk ⊢; exact hk
    · rename_i h; rw [dif_neg h] at hk; exact hk
theorem told82 (e : En) (i : Ins) (hc : Can e) : zf9 Tryz.prog 173 [.agg (eEn e), .agg (eIn i)] (.tup [.agg (eEf (toldF e i).1), .int .i64 (toldF e i).2]) := by
  refine F173.pcall' rfl fun T hT => ?_
  have h1 : (eIn i)[1]? = some (.int .u8 i.op.val) := rfl
  simp -implicitDefEqProofs only [go_sem, c173, hT, zb2, zb6]
  intro b2 b3 n1 n2 b4 m1 m2 m3 m4
  simp -implicitDefEqProofs only [go_sem, hT, zb2, zb6, za9, zb3, n1, n2, m1, m2, m3, m4, za2, h1, gdD]
  refine za4 (size125 i.op) ?_
  by_cases h34 : 34 ≤ i.op.val
  · have hs : sizeOp i.op.val = 0 := by rw [sizeOp, if_pos h34]
    simp -implicitDefEqProofs only [go_sem, hT, zb2, zb6, za9, zb3, n1, n2, m1, m2, m3, m4, za2, h1, hs, za3, Int.ofNat_zero]
    rw [toldF, if_pos h34]
    exact DLe_ef (DLe.slice _ _) (.refl _)
  have hs : ((sizeOp i.op.val : Int) = 0) = False := by
    simp only [eq_iff_iff, iff_false]
    rw [sizeOp, if_neg h34]; omega
  obtain ⟨ht, hno⟩ := tl_at (op := i.op.val) (by omega)
  simp -implicitDefEqProofs only [go_sem, hT, zb2, zb6, za9, zb3, n1, n2, m1, m2, m3, m4, za2, h1, hs]
  refine ⟨by rintro b (rfl | rfl) <;> simp [*], za4 table126 ?_⟩
  simp -implicitDefEqProofs only [go_sem, hT, zb2, zb6, za9, zb3, n1, n2, m1, m2, m3, m4, za2, h1, ht, Nat.mul_one, gdD]
  refine ⟨by omega, ?_⟩
  refine callK_tl hc _ hno ?_
  simp -implicitDefEqProofs only [go_sem, hT, eEf_len, eEf_take, n1, n2, m1, m2, m3, m4, za2, za3]
  rw [toldF, if_neg h34]
  exact DLe.refl _
def givesN : Gv → Nat
  | .no => 0
  | .const l => l.length
  | .dup | .swap => 2
def okEf (f : Ef) : Prop := match f.gives with
  | .no => False
  | .const _ => True
  | .dup => 0 < f.takes.length
  | .swap => 1 < f.takes.length
theorem tellF_ok (e : En) (i : Ins) (hc : Can e) (op : Nat) (h : op < 34) (h0 : (tellF e i (tlOf op)).2 = 0) : okEf (tellF e i (tlOf op)).1 ∧ (tellF e i (tlOf op)).1.takes.length ≤ 8 := by
  have fixedOk : ∀ ws g, tlOf op = .fixed ws g → okEf ⟨ws, g⟩ ∧ ws.length ≤ 8 → okEf (tellF e i (tlOf op)).1 ∧ (tellF e i (tlOf op)).1.takes.length ≤ 8 := fun ws g he hk => by rw [he]; exact hk
  have hcall : tlOf op = .call → okEf (tellF e i (tlOf op)).1 ∧ (tellF e i (tlOf op)).1.takes.length ≤ 8 := fun he => by
    rw [he] at h0 ⊢
    simp only [tellF] at h0 ⊢
    split
    · rename_i hq; exact ⟨trivial, by simpa using hc.sigs _ (List.getElem_mem _)⟩
    · rename_i hq; rw [dif_neg hq] at h0; cases h0
  have hret : tlOf op = .ret → okEf (tellF e i (tlOf op)).1 ∧ (tellF e i (tlOf op)).1.takes.length ≤ 8 := fun he => by
    rw [he] at h0 ⊢
    simp only [tellF, dif_pos hc.fn1]
    exact ⟨trivial, by split <;> simp⟩
  have hcls : ∀ ws c, ws.length ≤ 8 → tlOf op = .classed ws c → okEf (tellF e i (tlOf op)).1 ∧ (tellF e i (tlOf op)).1.takes.length ≤ 8 := fun ws c hw he => by
    rw [he] at h0 ⊢
    simp only [tellF] at h0 ⊢
    split
    · rename_i hq; rw [if_pos hq] at h0; cases h0
    · exact ⟨trivial, hw⟩
  have hfld : ∀ p, tlOf op = .field p → okEf (tellF e i (tlOf op)).1 ∧ (tellF e i (tlOf op)).1.takes.length ≤ 8 := fun p he => by
    rw [he] at h0 ⊢
    simp only [tellF] at h0 ⊢
    split
    · cases p
      · exact ⟨trivial, by simp⟩
      · exact ⟨trivial, by simp⟩
    · rename_i hq; rw [dif_neg hq] at h0; cases h0
  have : op = 0 ∨ op = 1 ∨ op = 2 ∨ op = 3 ∨ op = 4 ∨ op = 5 ∨ op = 6 ∨ op = 7 ∨ op = 8 ∨ op = 9 ∨ op = 10 ∨ op = 11 ∨ op = 12 ∨ op = 13 ∨ op = 14 ∨ op = 15 ∨ op = 16 ∨ op = 17 ∨ op = 18 ∨ op = 19 ∨ op = 20 ∨ op = 21 ∨ op = 22 ∨ op = 23 ∨ op = 24 ∨ op = 25 ∨ op = 26 ∨ op = 27 ∨ op = 28 ∨ op = 29 ∨ op = 30 ∨ op = 31 ∨ op = 32 ∨ op = 33 := by omega
  rcases this with h | h | h | h | h | h | h | h | h | h | h | h | h | h | h | h | h | h | h | h | h | h | h | h | h | h | h | h | h | h | h | h | h | h <;> subst h <;> first
    | exact fixedOk _ _ rfl ⟨by simp [okEf], by simp⟩
    | exact hcall rfl
    | exact hret rfl
    | exact hcls _ _ (by simp) rfl
    | exact hfld _ rfl
theorem checkFrom_right {w : ByteArray → Bool} {l : List Cl} : ∀ (k i : Nat), k + i = l.length → Right w l i → (checkFrom w l k i).2 = 0 → Right w l l.length
  | 0, i, hk, hr, h => by
    have : i = l.length := by omega
    subst this; exact hr
  | k + 1, i, hk, hr, h => by
    rw [checkFrom, dif_pos (by omega)] at h
    by_cases he : classErr w l i (l[i]'(by omega)) = 0
    · rw [if_pos he] at h
      refine checkFrom_right k (i + 1) (by omega) (fun j hj hj' => ?_) h
      rcases Nat.lt_or_eq_of_le (Nat.le_of_lt_succ hj') with hj' | rfl
      · exact hr j hj hj'
      · exact he
    · rw [if_neg he] at h; exact absurd h he
theorem check_right {w : ByteArray → Bool} {l : List Cl} (h : (checkL w l).2 = 0) : Right w l l.length :=
  checkFrom_right l.length 0 (by omega) (fun i h h' => by omega) h
theorem canB_can {e : En} (hw : WideE e) (h : canB e = true) : Can e := by
  simp only [canB, Bool.and_eq_true, decide_eq_true_eq] at h
  obtain ⟨⟨h1, h2, h3, h4⟩, h5⟩ := h
  refine ⟨hw, check_right h1, h3, by omega, fun s hs => ?_⟩
  have := List.all_eq_true.1 h5 s hs
  simp only [sigMayB, Bool.and_eq_true, decide_eq_true_eq] at this
  exact this.1.1
open Go.Proofs
def someR (t : Ty) : List Ty := if t.val = 0 then [] else [t]
theorem some115 (t : Ty) : zf9 Tryz.prog 216 [.int .u8 t.val] (.slice .no (rws eT (someR t))) := by
  refine F216.pcall' rfl fun T hT => ?_
  by_cases h : t.val = 0
  · have h1 : (t.val : Int) = 0 := by omega
    simp -implicitDefEqProofs only [go_sem, c216, hT, h1]
    rw [someR, if_pos h]
    exact DLe.slice _ _
  · have h1 : ¬ (t.val : Int) = 0 := by omega
    simp -implicitDefEqProofs only [go_sem, c216, hT, h1, frz]
    rw [someR, if_neg h]
    exact DLe.slice _ _
theorem class116 (n : Nat) (h : n < 32) : zf9 Tryz.prog 217 [.int .i64 n] (.int .u8 (((⟨16 + n, by omega⟩ : Ty)).val : Int)) := by
  refine F217.pcall' rfl fun T hT => ?_
  have h1 : IntKind.wrap .u8 (n : Int) = n := wrap_u8 (by omega) (by omega)
  have h2 : IntKind.wrap .u8 (16 + (n : Int)) = 16 + n := wrap_u8 (by omega) (by omega)
  simp -implicitDefEqProofs only [go_sem, c217, hT, h1, h2]
  exact DLe.of_eq (by simp)
def opndF (e : En) (i : Ins) : Nat :=
  if i.op.val = 21 then (if 0 ≤ i.a ∧ i.a.toNat < e.sgs.length then 0 else 71)
  else if i.op.val = 23 ∨ i.op.val = 30 ∨ i.op.val = 31 then (if 0 ≤ i.a ∧ i.a < e.cs.length then 0 else 72)
  else if i.op.val = 24 ∨ i.op.val = 25 then (if (0 ≤ i.a ∧ i.a < e.cs.length) ∧ 0 ≤ i.b ∧ i.b.toNat < (ze5 e.cs (upI e.cs i.a).reverse).length then 0 else 72)
  else 0
theorem refFieldsUp {e : En} (hc : Can e) (c : Int) (h : c < e.cs.length) : ze5 e.cs (lineR e.cs c).reverse = ze5 e.cs (upI e.cs c).reverse := by
  rw [lineR_up hc.right.falls (by omega) h]
theorem operands75 (e : En) (i : Ins) (hc : Can e) : zf9 Tryz.prog 147 [.agg (eEn e), .agg (eIn i)] (.int .i64 (opndF e i)) := by
  have hw1 := hc.wide.1.1
  have h32 := hc.cls
  refine F147.pcall' rfl fun T hT => ?_
  simp -implicitDefEqProofs only [go_sem, c147, hT, eEn, eIn]
  intro b2 b3 n1 n2
  by_cases o21 : (i.op.val : Int) = 21
  · by_cases h : 0 ≤ i.a ∧ i.a.toNat < e.sgs.length
    · have hf : (decide (i.a < 0) || decide ((e.sgs.length : Int) ≤ i.a)) = false := by simp; omega
      simp -implicitDefEqProofs only [go_sem, mmB, hT, n1, n2, eEn, eIn, o21, hf]
      exact DLe.of_eq (by rw [opndF, if_pos (by omega), if_pos h]; rfl)
    · have hf : (decide (i.a < 0) || decide ((e.sgs.length : Int) ≤ i.a)) = true := by simp; omega
      simp -implicitDefEqProofs only [go_sem, mmB, hT, n1, n2, eEn, eIn, o21, hf]
      exact DLe.of_eq (by rw [opndF, if_pos (by omega), if_neg h]; rfl)
  by_cases o3 : (i.op.val : Int) = 23 ∨ (i.op.val : Int) = 30 ∨ (i.op.val : Int) = 31
  · have e1 : opndF e i = if 0 ≤ i.a ∧ i.a < e.cs.length then 0 else 72 := by rw [opndF, if_neg (by omega), if_pos (by omega)]
    by_cases h : 0 ≤ i.a ∧ i.a < e.cs.length
    · have hf : (decide (i.a < 0) || decide ((e.cs.length : Int) ≤ i.a)) = false := by simp; omega
      rw [e1, if_pos h]
      rcases o3 with o | o | o <;> (simp -implicitDefEqProofs only [go_sem, hT, n1, n2, eEn, eIn, o]; simp -implicitDefEqProofs only [go_sem, mmB, hT, n1, n2, eEn, eIn, o, hf]; exact DLe.of_eq rfl)
    · have hf : (decide (i.a < 0) || decide ((e.cs.length : Int) ≤ i.a)) = true := by simp; omega
      rw [e1, if_neg h]
      rcases o3 with o | o | o <;> (simp -implicitDefEqProofs only [go_sem, hT, n1, n2, eEn, eIn, o]; simp -implicitDefEqProofs only [go_sem, mmB, hT, n1, n2, eEn, eIn, o, hf]; exact DLe.of_eq rfl)
  by_cases o2 : (i.op.val : Int) = 24 ∨ (i.op.val : Int) = 25
  · have e1 : opndF e i = if (0 ≤ i.a ∧ i.a < e.cs.length) ∧ 0 ≤ i.b ∧ i.b.toNat < (ze5 e.cs (upI e.cs i.a).reverse).length then 0 else 72 := by rw [opndF, if_neg (by omega), if_neg (by omega), if_pos (by omega)]
    have hfl := hc.flds i.a
    by_cases h : 0 ≤ i.a ∧ i.a < e.cs.length
    case neg =>
      have hf : (decide (i.a < 0) || decide ((e.cs.length : Int) ≤ i.a)) = true := by simp; omega
      rw [e1, if_neg (by omega)]
      rcases o2 with o | o <;> (simp -implicitDefEqProofs only [go_sem, hT, n1, n2, eEn, eIn, o]; simp -implicitDefEqProofs only [go_sem, mmB, hT, n1, n2, eEn, eIn, o, hf]; exact DLe.of_eq rfl)
    have hf : (decide (i.a < 0) || decide ((e.cs.length : Int) ≤ i.a)) = false := by simp; omega
    have hup := refFieldsUp hc i.a h.2
    rw [← hup] at e1 hfl
    have hcall := refFields114 e.cs .no i.a (by omega) (by omega)
    generalize ze5 e.cs (lineR e.cs i.a).reverse = F at *
    by_cases hb : i.b < 0
    · rw [e1, if_neg (by omega)]
      rcases o2 with o | o <;> (simp -implicitDefEqProofs only [go_sem, hT, n1, n2, eEn, eIn, o]; simp -implicitDefEqProofs only [go_sem, mmB, hT, n1, n2, eEn, eIn, o, hf, hb]; first | exact DLe.of_eq rfl | (refine ⟨by rintro b rfl; simp, ?_⟩; exact DLe.of_eq rfl))
    by_cases hl : i.b.toNat < F.length
    · have hq : ((F.length : Int) ≤ i.b) = False := by simp; omega
      rw [e1, if_pos (by omega)]
      rcases o2 with o | o <;> (simp -implicitDefEqProofs only [go_sem, hT, n1, n2, eEn, eIn, o]; simp -implicitDefEqProofs only [go_sem, mmB, hT, n1, n2, eEn, eIn, o, hf, hb]; refine ⟨by rintro b rfl; simp [n1, n2], za4 hcall ?_⟩; simp -implicitDefEqProofs only [go_sem, mmB, hT, n1, n2, eEn, eIn, o, hq]; exact DLe.of_eq rfl)
    · have hq : ((F.length : Int) ≤ i.b) = True := by simp; omega
      rw [e1, if_neg (by omega)]
      rcases o2 with o | o <;> (simp -implicitDefEqProofs only [go_sem, hT, n1, n2, eEn, eIn, o]; simp -implicitDefEqProofs only [go_sem, mmB, hT, n1, n2, eEn, eIn, o, hf, hb]; refine ⟨by rintro b rfl; simp [n1, n2], za4 hcall ?_⟩; simp -implicitDefEqProofs only [go_sem, mmB, hT, n1, n2, eEn, eIn, o, hq]; exact DLe.of_eq rfl)
  have e1 : opndF e i = 0 := by rw [opndF, if_neg (by omega), if_neg (by omega), if_neg (by omega)]
  have m1 : ¬ (i.op.val : Int) = 23 := by omega
  have m2 : ¬ (i.op.val : Int) = 30 := by omega
  have m3 : ¬ (i.op.val : Int) = 31 := by omega
  have m4 : ¬ (i.op.val : Int) = 24 := by omega
  have m5 : ¬ (i.op.val : Int) = 25 := by omega
  rw [e1]
  simp -implicitDefEqProofs only [go_sem, hT, n1, n2, eEn, eIn, o21, m1, m2, m3, m4, m5]
  exact DLe.of_eq rfl
end Go.AL
