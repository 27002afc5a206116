import Derived.Test.YtanhkkillmbkhaaPr
import Derived.Test.YtanhkkillmbkhaaCb
import Derived.Shelf.RegionOpenPlain
import Derived.WalkKit
import Derived.Lib.Walk
import Derived.Lib.SliceRun
import Derived.Lib.AppendZerosOnto
namespace Go.AL
open Go.Proofs Go.Shelf Go.RowKit Go.Lib
set_option linter.unusedSimpArgs false
set_option linter.unusedVariables false
set_option maxRecDepth 100000
set_option maxHeartbeats 4000000

/-! slices.Grow of the nil slice -/
theorem grow89_some (n : Nat) (z : Value) (w : World) (h0 : 0 < n) (hn : n * 32 ≤ 281474976710656) (i0 : TypeInfo) (hi0 : Try.prog.info? 63 = some i0) (hz0 : i0.zero = some z) (hs : i0.size = 4) (hb : i0.bytes = 32) :
    Calls Try.prog 89 #[.slice none 0 0, .int .i64 n] w fun e w' =>
      e = .returned (.slice (some ⟨w.heap.size, 0, none⟩) 0 (grownCap w n 0 63)) ∧
      w' = w.drew.alloc (.cells (#[] ++ Builtin.zeroCells z.cells n ++ Builtin.zeroCells z.cells (grownCap w n 0 63 - n)) 63) := by
  have h1 : ¬ ((n : Int) < 0) := by omega
  have h3 : wrap64 ((n : Int) - 0) = (n : Int) := by unfold wrap64; omega
  have hrz : ∀ ty, (Builtin.append_ #[78, 3] ty #[.slice none 0 0, .int .i64 n]).run Try.prog w =
      .ok (.slice (some ⟨w.heap.size, 0, none⟩) n (grownCap w n 0 63)) (w.drew.alloc (.cells (#[] ++ Builtin.zeroCells z.cells n ++ Builtin.zeroCells z.cells (grownCap w n 0 63 - n)) 63)) := fun ty => by
    have h := Lib.run_append_grow_zeros (P := Try.prog) w 78 3 ty 63 i0 z .i64 .i64 Try.underlying78 Try.underlying3 hi0 hz0 none 0 0 [] (by simp [Builtin.firstCells]) n h0 (by omega) (by omega) (by omega) (by rw [hb]; omega) (by
      have : Builtin.nextslicecap (0 + n) 0 = n := by simp [Builtin.nextslicecap]; omega
      rw [this, hb]; exact hn)
    simpa using h
  go_enter Try.func89, Try.ntmps89
  go_wp2_with (at_builtin; refine Lib.wpList_append_run _ rfl _ _ _ _ rfl _ _ rfl rfl _ _ (hrz _) ?_)
  all_goals (go_ret; exact ⟨rfl, rfl⟩)
theorem grow89_none (w : World) : Calls Try.prog 89 #[.slice none 0 0, .int .i64 0] w fun e w' => e = .returned (.slice none 0 0) ∧ w' = w := by
  go_enter Try.func89, Try.ntmps89
  go_wp2
  go_ret
  exact ⟨rfl, rfl⟩
theorem info63 : ∃ i0 z, Try.prog.info? 63 = some i0 ∧ i0.zero = some z ∧ i0.size = 4 ∧ i0.bytes = 32 ∧ z.cells.size = 4 := by
  have h1 := Try.sz63
  have h2 := Try.by63
  have h3 := Try.zero63
  simp only [szP, bytesP, zeroP, Option.map_eq_some_iff, Option.bind_eq_some_iff] at h1 h2 h3
  obtain ⟨i, hi, h1⟩ := h1
  obtain ⟨i', hi', h2⟩ := h2
  obtain ⟨i'', hi'', z, hz, h3⟩ := h3
  rw [hi] at hi' hi''
  cases hi'; cases hi''
  refine ⟨i, z, hi, hz, h1, h2, ?_⟩
  split at h3
  · simp only [Option.some.injEq] at h3
    have := congrArg List.length h3
    simpa using this
  · cases h3
theorem grow89 (n : Nat) (hn : n * 32 ≤ 281474976710656) : RCall Try.prog 89 [.slice .nil [], .int .i64 n] {} fun d s' => (n = 0 ∧ d = .slice .nil [] ∧ s' = {}) ∨ (0 < n ∧ ∃ b, d = .roomy b 4 n [] ∧ s' = ({} : St).setBuf b 4 0) := by
  refine ⟨⟨Try.f89, Try.func89, rfl, rfl⟩, fun M w vs hi hv => ?_⟩
  obtain ⟨v1, r1, rfl, h1, v2, r2, rfl, h2, rfl⟩ := hv
  obtain ⟨rfl, _⟩ := h1
  obtain rfl := h2
  by_cases h0 : n = 0
  · subst h0
    refine (grow89_none w).mono ?_
    rintro e w' ⟨rfl, rfl⟩
    exact ⟨M, {}, .ret (.slice .nil []), ⟨_, rfl, rfl, rfl⟩, hi, KeepF.refl _ _ _, _, rfl, .inl ⟨rfl, rfl, rfl⟩⟩
  obtain ⟨i0, z, hi0, hz0, hs, hb, hzc⟩ := info63
  refine (grow89_some n z w (by omega) hn i0 hi0 hz0 hs hb).mono ?_
  rintro e w' ⟨rfl, rfl⟩
  have hge : n ≤ grownCap w n 0 63 := grownCap_ge w _ _ _
  generalize grownCap w n 0 63 = G at *
  have hsz : (#[] ++ Builtin.zeroCells z.cells n ++ Builtin.zeroCells z.cells (G - n)).size = G * 4 := by
    simp only [Array.size_append, size_zeroCells, hzc]
    simp; omega
  obtain ⟨i1, k1⟩ := drew_inv hi
  obtain ⟨i2, k2⟩ := i1.addBuf (c := #[] ++ Builtin.zeroCells z.cells n ++ Builtin.zeroCells z.cells (G - n)) 63 (n := 0) hsz (Nat.zero_le _)
  refine ⟨_, _, .ret (.roomy w.heap.size 4 n []), ⟨_, rfl, ?_⟩, i2, k1.trans hi.dom k2, _, rfl, .inr ⟨by omega, w.heap.size, rfl, rfl⟩⟩
  exact ⟨G, _, 63, (0, 0), rfl, Nat.zero_le _, hge, trivial, heap_alloc_new _ _, hsz, fun hh => by
    have : (if w.heap.size = w.drew.heap.size then some (MK.buf (0 * 4)) else M w.heap.size) = some MK.box := hh
    rw [if_pos (show w.heap.size = w.drew.heap.size from rfl)] at this; cases this⟩
end Go.AL
namespace Go.AL
open Go.Proofs
set_option linter.unusedSimpArgs false
set_option linter.unusedVariables false
set_option maxRecDepth 100000
set_option maxHeartbeats 4000000

theorem clone44 (xs : List Ins) (o : Own) (h0 : nilOk o xs.length) (hl : xs.length * 32 ≤ 140737488355328) : PCall Try.prog 44 [.slice o (rws eIn xs)] (.slice .no (rws eIn xs)) := by
  refine F44.pcall' rfl fun T hT => ?_
  simp -implicitDefEqProofs only [go_sem, Nat.reduceEqDiff, Nat.reduceLT, Nat.reduceLeDiff, Nat.reduceAdd, Nat.reduceSub, Nat.reduceMul, Nat.reduceBEq, ↓reduceIte, reduceCtorEq, Int.reduceEq, Int.reduceLT, Int.reduceLE, Int.reduceNeg, Int.reduceAdd, Int.reduceSub, Int.reduceToNat, rws_len, vc_cond, c44, hT]
  intro r hr
  refine br_split (fun h => ?_) fun h => ?_
  · exact DLe_nils (nilR_nil hr h fun h => by simpa [rws_nil] using h0 h)
  · simp -implicitDefEqProofs only [go_sem, Nat.reduceEqDiff, Nat.reduceLT, Nat.reduceLeDiff, Nat.reduceAdd, Nat.reduceSub, Nat.reduceMul, Nat.reduceBEq, ↓reduceIte, reduceCtorEq, Int.reduceEq, Int.reduceLT, Int.reduceLE, Int.reduceNeg, Int.reduceAdd, Int.reduceSub, Int.reduceToNat, rws_len, vc_cond, hT, rws_one eIn_len, rws_len, rws_nil, hl]
    rintro rfl
    exact DLe_nils rfl

/-- Does an instruction end the way? -/
def endsB (op : Nat) : Bool := decide (op = 19 ∨ op = 22 ∨ op = 32)
theorem refEnds41 (t : Ty) : PCall Try.prog 41 [.int .u8 t.val] (.bool (endsB t.val)) := by
  refine F41.pcall' rfl fun T hT => ?_
  simp -implicitDefEqProofs only [go_sem, Nat.reduceEqDiff, Nat.reduceLT, Nat.reduceLeDiff, Nat.reduceAdd, Nat.reduceSub, Nat.reduceMul, Nat.reduceBEq, ↓reduceIte, reduceCtorEq, Int.reduceEq, Int.reduceLT, Int.reduceLE, Int.reduceNeg, Int.reduceAdd, Int.reduceSub, Int.reduceToNat, rws_len, vc_condQ, w_guardO, ite_and, ite_or, ite_nor, ite_nand, ite_aor, ite_aand, ite_same, gm_move, gm_assign, gm_pick, gm_bin_t, gm_bin_i, gm_bin_b, gm_bin_s, gm_un, gm_conv, gm_iface, gm_func, gm_extract, gm_field, gm_faddr, gm_iaddr, gm_idx, gm_nilc, gm_len, gm_slice, gm_load, c41, hT]
  exact DLe_bool (by rw [Bool.eq_iff_iff]; simp [endsB]; omega)
theorem ends88 (t : Ty) : PCall Try.prog 88 [.int .u8 t.val] (.bool (endsB t.val)) := by
  refine F88.pcall' rfl fun T hT => ?_
  simp -implicitDefEqProofs only [go_sem, Nat.reduceEqDiff, Nat.reduceLT, Nat.reduceLeDiff, Nat.reduceAdd, Nat.reduceSub, Nat.reduceMul, Nat.reduceBEq, ↓reduceIte, reduceCtorEq, Int.reduceEq, Int.reduceLT, Int.reduceLE, Int.reduceNeg, Int.reduceAdd, Int.reduceSub, Int.reduceToNat, rws_len, vc_condQ, w_guardO, ite_and, ite_or, ite_nor, ite_nand, ite_aor, ite_aand, ite_same, gm_move, gm_assign, gm_pick, gm_bin_t, gm_bin_i, gm_bin_b, gm_bin_s, gm_un, gm_conv, gm_iface, gm_func, gm_extract, gm_field, gm_faddr, gm_iaddr, gm_idx, gm_nilc, gm_len, gm_slice, gm_load, c88, hT]
  exact DLe_bool (by rw [Bool.eq_iff_iff]; simp [endsB]; omega)

/-- A row with room, or nil. -/
def rmD (n : Nat) (b : Nat) (es : List (List D)) : D := if n = 0 then .slice .nil es else .roomy b 4 n es
def rmS (n b k : Nat) : St := if n = 0 then {} else ({} : St).setBuf b 4 k
theorem rm_le {n b : Nat} {es : List (List D)} : DLe (rmD n b es) (.slice .no es) := by
  unfold rmD
  split
  · exact DLe.slice _ _
  · intro M w v h
    obtain ⟨cap, c, e, f, rfl, hl, hk, hr, _⟩ := h
    exact .inr (.inl ⟨b, 0, cap, 4, rfl, hl, hr⟩)
theorem rm_cellQ {n b : Nat} {es : List (List D)} : (rmD n b es).cellQ = true := by unfold rmD; split <;> rfl
theorem setBuf_drop {b s n m : Nat} : (((({} : St).setBuf b s n).dropBuf b).setBuf b s m) = ({} : St).setBuf b s m := by
  ext x
  · rfl
  · simp only [St.setBuf, St.dropBuf]; split <;> rfl
/-- One more row behind, where there is room. -/
theorem app_rm {N : Nat} {T : Env} {K : Env → St → Prop} {d : Option Nat} {n b : Nat} {xs ys : List Ins} {o : Own} (hn : xs.length + ys.length ≤ n) (hk : putK N d (rmD n b (rws eIn (xs ++ ys))) K T (rmS n b (xs.length + ys.length))) :
    appendA Try.prog N d 78 78 (rmD n b (rws eIn xs)) (.slice o (rws eIn ys)) K T (rmS n b xs.length) := by
  have e1 : rws eIn (xs ++ ys) = rws eIn xs ++ rws eIn ys := by simp [rws]
  have hy : ∀ r ∈ rws eIn ys, r.length = 4 := fun r hr => by
    simp only [rws, List.mem_map] at hr
    obtain ⟨i, _, rfl⟩ := hr; rfl
  unfold rmD rmS at *
  by_cases h0 : n = 0
  · rw [if_pos h0, if_pos h0] at *
    have hx0 : xs = [] := List.eq_nil_of_length_eq_zero (by omega)
    have hy0 : ys = [] := List.eq_nil_of_length_eq_zero (by omega)
    subst hx0; subst hy0
    rw [show rws eIn ([] : List Ins) = [] from rfl]
    simp only [app_nil, Try.sli78, Try.sz63, Try.by63, Try.zero63, Option.map_some]
    refine ⟨trivial, rfl, by omega, by omega, by simp, by simp, fun _ => hk, fun h => absurd rfl h⟩
  · rw [if_neg h0, if_neg h0] at *
    simp only [app_roomy, Try.sli78, Try.sz63, Try.by63, Try.zero63, Option.map_some]
    refine ⟨trivial, trivial, rfl, rfl, by omega, hy, by simpa [rws_len] using hn, by simp [St.setBuf, rws_len], ?_⟩
    rw [← e1, setBuf_drop, rws_len, rws_len]
    exact hk

theorem concat43 (a b : List Ins) (o1 o2 : Own) (ha : a.length * 32 ≤ 140737488351232) (hb : b.length * 32 ≤ 140737488351232) : PCall Try.prog 43 [.slice .exact [[.slice o1 (rws eIn a)], [.slice o2 (rws eIn b)]]] (.slice .no (rws eIn (a ++ b))) := by
  refine F43.pcall' rfl fun T hT => ?_
  obtain ⟨L, hL⟩ : ∃ L : List (List D), [[.slice o1 (rws eIn a)], [.slice o2 (rws eIn b)]] = L := ⟨_, rfl⟩
  have hLl : L.length = 2 := by rw [← hL]; rfl
  have l0 : L[0]?.getD [] = [.slice o1 (rws eIn a)] := by rw [← hL]; rfl
  have l1 : L[1]?.getD [] = [.slice o2 (rws eIn b)] := by rw [← hL]; rfl
  rw [hL] at hT
  clear hL
  let sz : Nat → Nat := fun i => if i = 0 then 0 else if i = 1 then a.length else a.length + b.length
  let ct : Nat → List Ins := fun i => if i = 0 then [] else if i = 1 then a else a ++ b
  have s0 : sz 0 = 0 := rfl
  have s1 : sz 1 = a.length := rfl
  have s2 : sz 2 = a.length + b.length := rfl
  have t0 : ct 0 = [] := rfl
  have t1 : ct 1 = a := rfl
  have t2 : ct 2 = a ++ b := rfl
  clear_value sz ct
  have c1 : ((1 : Nat) : Int) = 1 := rfl
  have c2 : ((2 : Nat) : Int) = 2 := rfl
  simp -implicitDefEqProofs only [go_sem, Nat.reduceEqDiff, Nat.reduceLT, Nat.reduceLeDiff, Nat.reduceAdd, Nat.reduceSub, Nat.reduceMul, Nat.reduceBEq, ↓reduceIte, reduceCtorEq, Int.reduceEq, Int.reduceLT, Int.reduceLE, Int.reduceNeg, Int.reduceAdd, Int.reduceSub, Int.reduceToNat, rws_len, vc_cond, c43, hT, hLl]
  refine loopL F43 (fun i : Nat => [(0, .slice .exact L), (3, .int .i64 (sz i)), (9, .slice .exact L), (10, .int .i64 2), (11, .int .i64 i)]) (fun _ => {}) (fun i => i ≤ 2) (fun i => 2 - i) 0 (by omega) ?_ (St.le.refl _) ?_
  · simp -implicitDefEqProofs only [go_sem, Nat.reduceEqDiff, Nat.reduceLT, Nat.reduceLeDiff, Nat.reduceAdd, Nat.reduceSub, Nat.reduceMul, Nat.reduceBEq, ↓reduceIte, reduceCtorEq, Int.reduceEq, Int.reduceLT, Int.reduceLE, Int.reduceNeg, Int.reduceAdd, Int.reduceSub, Int.reduceToNat, rws_len, vc_cond, hT, hLl, s0, Int.ofNat_zero]
    all_goals rfl
  clear hT T
  rintro i hi T hT
  have hi3 : i = 0 ∨ i = 1 ∨ i = 2 := by omega
  rcases hi3 with rfl | rfl | rfl
  · have w1 : IntKind.wrap .i64 ((sz 0 : Int) + a.length) = (sz 1 : Int) := by rw [s0, s1, wrap_i64 (by omega) (by omega)]; simp
    have g1 : ((sz 1 : Int) < 0) = False := by simp
    simp -implicitDefEqProofs only [go_sem, Nat.reduceEqDiff, Nat.reduceLT, Nat.reduceLeDiff, Nat.reduceAdd, Nat.reduceSub, Nat.reduceMul, Nat.reduceBEq, ↓reduceIte, reduceCtorEq, Int.reduceEq, Int.reduceLT, Int.reduceLE, Int.reduceNeg, Int.reduceAdd, Int.reduceSub, Int.reduceToNat, rws_len, vc_cond, hT, Int.ofNat_zero, hLl, l0, rws_len, w1, g1]
    refine ⟨by omega, 1, by omega, by omega, ⟨rfl, ?_⟩, St.le.refl _⟩
    rfl
  · have w1 : IntKind.wrap .i64 ((sz 1 : Int) + b.length) = (sz 2 : Int) := by rw [s1, s2, wrap_i64 (by omega) (by omega)]; simp
    have g1 : ((sz 2 : Int) < 0) = False := by simp
    simp -implicitDefEqProofs only [go_sem, Nat.reduceEqDiff, Nat.reduceLT, Nat.reduceLeDiff, Nat.reduceAdd, Nat.reduceSub, Nat.reduceMul, Nat.reduceBEq, ↓reduceIte, reduceCtorEq, Int.reduceEq, Int.reduceLT, Int.reduceLE, Int.reduceNeg, Int.reduceAdd, Int.reduceSub, Int.reduceToNat, rws_len, vc_cond, hT, hLl, l1, rws_len, w1, g1, c1, c2]
    refine ⟨2, by omega, by omega, ⟨rfl, ?_⟩, St.le.refl _⟩
    rfl
  simp -implicitDefEqProofs only [go_sem, Nat.reduceEqDiff, Nat.reduceLT, Nat.reduceLeDiff, Nat.reduceAdd, Nat.reduceSub, Nat.reduceMul, Nat.reduceBEq, ↓reduceIte, reduceCtorEq, Int.reduceEq, Int.reduceLT, Int.reduceLE, Int.reduceNeg, Int.reduceAdd, Int.reduceSub, Int.reduceToNat, rws_len, vc_cond, hT, hLl, c2]
  have hn : sz 2 * 32 ≤ 281474976710656 := by rw [s2]; omega
  refine callB_all (grow89 (sz 2) hn) ?_
  rintro d s' hd
  obtain ⟨bb, rfl, rfl⟩ : ∃ bb, d = rmD (sz 2) bb (rws eIn (ct 0)) ∧ s' = rmS (sz 2) bb (ct 0).length := by
    rw [t0]
    rcases hd with ⟨h1, rfl, rfl⟩ | ⟨h1, bb, rfl, rfl⟩
    · exact ⟨0, by rw [rmD, if_pos h1]; rfl, by rw [rmS, if_pos h1]⟩
    · exact ⟨bb, by rw [rmD, if_neg (by omega)]; rfl, by rw [rmS, if_neg (by omega)]; rfl⟩
  clear hd
  have cq : ∀ es, (rmD (sz 2) bb es).cellQ = true := fun _ => rm_cellQ
  simp -implicitDefEqProofs only [go_sem, Nat.reduceEqDiff, Nat.reduceLT, Nat.reduceLeDiff, Nat.reduceAdd, Nat.reduceSub, Nat.reduceMul, Nat.reduceBEq, ↓reduceIte, reduceCtorEq, Int.reduceEq, Int.reduceLT, Int.reduceLE, Int.reduceNeg, Int.reduceAdd, Int.reduceSub, Int.reduceToNat, rws_len, vc_cond, hT, hLl]
  refine loopL F43 (fun i : Nat => [(6, rmD (sz 2) bb (rws eIn (ct i))), (25, .slice .exact L), (26, .int .i64 2), (27, .int .i64 i)]) (fun i => rmS (sz 2) bb (ct i).length) (fun i => i ≤ 2) (fun i => 2 - i) 0 (by omega) ?_ (St.le.refl _) ?_
  · simp -implicitDefEqProofs only [go_sem, Nat.reduceEqDiff, Nat.reduceLT, Nat.reduceLeDiff, Nat.reduceAdd, Nat.reduceSub, Nat.reduceMul, Nat.reduceBEq, ↓reduceIte, reduceCtorEq, Int.reduceEq, Int.reduceLT, Int.reduceLE, Int.reduceNeg, Int.reduceAdd, Int.reduceSub, Int.reduceToNat, rws_len, vc_cond, hT, hLl, Int.ofNat_zero]
    all_goals rfl
  clear hT T
  rintro i hi T hT
  have hi3 : i = 0 ∨ i = 1 ∨ i = 2 := by omega
  rcases hi3 with rfl | rfl | rfl
  · simp -implicitDefEqProofs only [go_sem, Nat.reduceEqDiff, Nat.reduceLT, Nat.reduceLeDiff, Nat.reduceAdd, Nat.reduceSub, Nat.reduceMul, Nat.reduceBEq, ↓reduceIte, reduceCtorEq, Int.reduceEq, Int.reduceLT, Int.reduceLE, Int.reduceNeg, Int.reduceAdd, Int.reduceSub, Int.reduceToNat, rws_len, vc_cond, hT, Int.ofNat_zero, hLl, l0, rws_len]
    refine ⟨by omega, ?_⟩
    rw [t0]
    refine app_rm (by rw [s2]; simp) ?_
    simp -implicitDefEqProofs only [go_sem, Nat.reduceEqDiff, Nat.reduceLT, Nat.reduceLeDiff, Nat.reduceAdd, Nat.reduceSub, Nat.reduceMul, Nat.reduceBEq, ↓reduceIte, reduceCtorEq, Int.reduceEq, Int.reduceLT, Int.reduceLE, Int.reduceNeg, Int.reduceAdd, Int.reduceSub, Int.reduceToNat, rws_len, vc_cond, hT]
    refine ⟨1, by omega, by omega, ⟨by rw [t1]; try rfl, rfl⟩, by rw [t1]; exact St.le.refl _⟩
  · simp -implicitDefEqProofs only [go_sem, Nat.reduceEqDiff, Nat.reduceLT, Nat.reduceLeDiff, Nat.reduceAdd, Nat.reduceSub, Nat.reduceMul, Nat.reduceBEq, ↓reduceIte, reduceCtorEq, Int.reduceEq, Int.reduceLT, Int.reduceLE, Int.reduceNeg, Int.reduceAdd, Int.reduceSub, Int.reduceToNat, rws_len, vc_cond, hT, c1, hLl, l1, rws_len]
    refine ⟨by omega, ?_⟩
    rw [t1]
    refine app_rm (by rw [s2]; simp) ?_
    simp -implicitDefEqProofs only [go_sem, Nat.reduceEqDiff, Nat.reduceLT, Nat.reduceLeDiff, Nat.reduceAdd, Nat.reduceSub, Nat.reduceMul, Nat.reduceBEq, ↓reduceIte, reduceCtorEq, Int.reduceEq, Int.reduceLT, Int.reduceLE, Int.reduceNeg, Int.reduceAdd, Int.reduceSub, Int.reduceToNat, rws_len, vc_cond, hT]
    refine ⟨2, by omega, by omega, ⟨by rw [t2], rfl⟩, by rw [t2, List.length_append]; exact St.le.refl _⟩
  · simp -implicitDefEqProofs only [go_sem, Nat.reduceEqDiff, Nat.reduceLT, Nat.reduceLeDiff, Nat.reduceAdd, Nat.reduceSub, Nat.reduceMul, Nat.reduceBEq, ↓reduceIte, reduceCtorEq, Int.reduceEq, Int.reduceLT, Int.reduceLE, Int.reduceNeg, Int.reduceAdd, Int.reduceSub, Int.reduceToNat, rws_len, vc_cond, hT, c2, hLl]
    rw [t2]
    exact rm_le
end Go.AL
namespace Go.AL
open Go.Proofs
set_option linter.unusedSimpArgs false
set_option linter.unusedVariables false
set_option maxRecDepth 100000
set_option maxHeartbeats 4000000

def prevEnds : Option Ins → Bool
  | none => false
  | some i => endsB i.op.val
/-- Instructions one behind another: 'p' the one ahead, 'k' the number of the first. -/
def runGo (e : En) : Option Ins → Nat → Fr → List Ins → Fr × Nat × Nat
  | _, _, f, [] => (f, 0, 0)
  | p, k, f, x :: r => if prevEnds p = true then (fr0 0, k, 51) else if (applyR e f x).2 ≠ 0 then (fr0 0, k, (applyR e f x).2) else runGo e (some x) (k + 1) (applyR e f x).1 r
def runF (e : En) (f : Fr) (l : List Ins) : Fr × Nat × Nat :=
  if canB e = false then (fr0 0, 0, 1) else if checkF e.cs.length f ≠ 0 then (fr0 0, 0, checkF e.cs.length f) else runGo e none 0 f l
def prevAt (l : List Ins) (i : Nat) : Option Ins := if i = 0 then none else l[i - 1]?
theorem eIn_1 (i : Ins) : (eIn i)[1]? = some (.int .u8 i.op.val) := rfl

theorem line42 (e : En) (f : Fr) (l : List Ins) (o : Own) (hw : WideE e) (hl : l.length * 32 ≤ 562949953421312) : PCall Try.prog 42 [.agg (eEn e), .agg (eFr f), .slice o (rws eIn l)] (.tup [.agg (eFr (runF e f l).1), .int .i64 (runF e f l).2.1, .int .i64 (runF e f l).2.2]) := by
  have e0 : (eEn e)[0]? = some (.slice .no (rws eC e.cs)) := rfl
  refine F42.pcall' rfl fun T hT => ?_
  simp -implicitDefEqProofs only [go_sem, Nat.reduceEqDiff, Nat.reduceLT, Nat.reduceLeDiff, Nat.reduceAdd, Nat.reduceSub, Nat.reduceMul, Nat.reduceBEq, ↓reduceIte, reduceCtorEq, Int.reduceEq, Int.reduceLT, Int.reduceLE, Int.reduceNeg, Int.reduceAdd, Int.reduceSub, Int.reduceToNat, rws_len, vc_cond, c42, hT, fr_zero, zFr_len, zFr_take, zFr_drop, eEn_len, eIn_len, eFr_len, eEn_take, eIn_take, eFr_take, eFr_drop, List.append_nil, List.getElem?_drop]
  intro b3 b4 n1 n2 b6 n3 n4 n5 n6
  simp -implicitDefEqProofs only [go_sem, Nat.reduceEqDiff, Nat.reduceLT, Nat.reduceLeDiff, Nat.reduceAdd, Nat.reduceSub, Nat.reduceMul, Nat.reduceBEq, ↓reduceIte, reduceCtorEq, Int.reduceEq, Int.reduceLT, Int.reduceLE, Int.reduceNeg, Int.reduceAdd, Int.reduceSub, Int.reduceToNat, rws_len, vc_cond, hT, fr_zero, zFr_len, zFr_take, zFr_drop, eEn_len, eIn_len, eFr_len, eEn_take, eIn_take, eFr_take, eFr_drop, List.append_nil, List.getElem?_drop, n1, n2, n3, n4, n5, n6]
  refine callB_pure (environment80 e hw) ?_
  cases hcan : canB e
  · simp -implicitDefEqProofs only [go_sem, Nat.reduceEqDiff, Nat.reduceLT, Nat.reduceLeDiff, Nat.reduceAdd, Nat.reduceSub, Nat.reduceMul, Nat.reduceBEq, ↓reduceIte, reduceCtorEq, Int.reduceEq, Int.reduceLT, Int.reduceLE, Int.reduceNeg, Int.reduceAdd, Int.reduceSub, Int.reduceToNat, rws_len, vc_cond, hT, fr_zero, zFr_len, zFr_take, zFr_drop, eEn_len, eIn_len, eFr_len, eEn_take, eIn_take, eFr_take, eFr_drop, List.append_nil, List.getElem?_drop, n1, n2, n3, n4, n5, n6, set_set, resM_cell]
    rw [runF, if_pos hcan, fr_fr0]
    exact DLe.refl _
  have hc := canB_can hw hcan
  simp -implicitDefEqProofs only [go_sem, Nat.reduceEqDiff, Nat.reduceLT, Nat.reduceLeDiff, Nat.reduceAdd, Nat.reduceSub, Nat.reduceMul, Nat.reduceBEq, ↓reduceIte, reduceCtorEq, Int.reduceEq, Int.reduceLT, Int.reduceLE, Int.reduceNeg, Int.reduceAdd, Int.reduceSub, Int.reduceToNat, rws_len, vc_cond, hT, fr_zero, zFr_len, zFr_take, zFr_drop, eEn_len, eIn_len, eFr_len, eEn_take, eIn_take, eFr_take, eFr_drop, List.append_nil, List.getElem?_drop, n1, n2, n3, n4, n5, n6, e0]
  refine callB_pure (check81 e.cs .no f) ?_
  by_cases hck : checkF e.cs.length f = 0
  case neg =>
    have hck' : ((checkF e.cs.length f : Int) = 0) = False := by simp; omega
    simp -implicitDefEqProofs only [go_sem, Nat.reduceEqDiff, Nat.reduceLT, Nat.reduceLeDiff, Nat.reduceAdd, Nat.reduceSub, Nat.reduceMul, Nat.reduceBEq, ↓reduceIte, reduceCtorEq, Int.reduceEq, Int.reduceLT, Int.reduceLE, Int.reduceNeg, Int.reduceAdd, Int.reduceSub, Int.reduceToNat, rws_len, vc_cond, hT, fr_zero, zFr_len, zFr_take, zFr_drop, eEn_len, eIn_len, eFr_len, eEn_take, eIn_take, eFr_take, eFr_drop, List.append_nil, List.getElem?_drop, n1, n2, n3, n4, n5, n6, set_set, resM_cell, hck']
    rw [runF, if_neg (by simp [hcan]), if_pos hck, fr_fr0]
    exact DLe.refl _
  have hck' : ((checkF e.cs.length f : Int) = 0) = True := by simp; omega
  have hX : ∃ X, runGo e none 0 f l = X := ⟨_, rfl⟩
  obtain ⟨X, hX⟩ := hX
  have hlf : runF e f l = X := by rw [runF, if_neg (by simp [hcan]), if_neg (by simp [hck]), hX]
  rw [hlf]
  clear hlf
  simp -implicitDefEqProofs only [go_sem, Nat.reduceEqDiff, Nat.reduceLT, Nat.reduceLeDiff, Nat.reduceAdd, Nat.reduceSub, Nat.reduceMul, Nat.reduceBEq, ↓reduceIte, reduceCtorEq, Int.reduceEq, Int.reduceLT, Int.reduceLE, Int.reduceNeg, Int.reduceAdd, Int.reduceSub, Int.reduceToNat, rws_len, vc_cond, hT, fr_zero, zFr_len, zFr_take, zFr_drop, eEn_len, eIn_len, eFr_len, eEn_take, eIn_take, eFr_take, eFr_drop, List.append_nil, List.getElem?_drop, n1, n2, n3, n4, n5, n6, hck', rws_len]
  refine loopL F42 (fun x : Nat × Fr => [(2, .slice o (rws eIn l)), (3, .ptr b3 0), (4, .ptr b4 0), (6, .ptr b6 0), (26, .slice o (rws eIn l)), (27, .int .i64 l.length), (28, .int .i64 x.1)]) (fun x => ((({} : St).set b3 (eEn e)).set b4 (eFr x.2)).set b6 zFr)
    (fun x => x.1 ≤ l.length ∧ runGo e (prevAt l x.1) x.1 x.2 (l.drop x.1) = X) (fun x => l.length - x.1) (0, f) ⟨Nat.zero_le _, hX⟩ ?_ (St.le.refl _) ?_
  · simp -implicitDefEqProofs only [go_sem, Nat.reduceEqDiff, Nat.reduceLT, Nat.reduceLeDiff, Nat.reduceAdd, Nat.reduceSub, Nat.reduceMul, Nat.reduceBEq, ↓reduceIte, reduceCtorEq, Int.reduceEq, Int.reduceLT, Int.reduceLE, Int.reduceNeg, Int.reduceAdd, Int.reduceSub, Int.reduceToNat, rws_len, vc_cond, hT, Int.ofNat_zero]
  clear hT T hX hck' hck
  rintro ⟨i, g⟩ ⟨hi, hX⟩ T hT
  simp only at hi hX hT ⊢
  by_cases h : i < l.length
  · have h1 : ((i : Int) < l.length) = True := by simp; omega
    have hR : (rws eIn l)[i]?.getD [] = eIn l[i] := rws_at h
    rw [List.drop_eq_getElem_cons h, runGo] at hX
    have hpv : ∀ j, prevAt l (i + 1) = some j ↔ l[i] = j := fun j => by rw [prevAt, if_neg (by omega), Nat.add_sub_cancel, List.getElem?_eq_getElem h]; simp
    have hpv2 : prevAt l (i + 1) = some l[i] := (hpv _).2 rfl
    have hgo : runGo e (some l[i]) (i + 1) = runGo e (prevAt l (i + 1)) (i + 1) := by rw [hpv2]
    rw [hgo] at hX
    have ha := apply39 e g l[i] hw
    rw [apply_eq e g l[i] hw] at ha
    have h0i : (0 < i) ∨ i = 0 := by omega
    generalize l[i] = x at *
    have wi : IntKind.wrap .i64 ((i : Int) + 1) = ((i + 1 : Nat) : Int) := by rw [wrap_i64 (by omega) (by omega)]; omega
    have hdone : l.length - (i + 1) < l.length - i := by omega
    -- what stands behind the look at the one ahead
    have go : prevEnds (prevAt l i) = false → ∀ T' : Env, True := fun _ _ => trivial
    rcases h0i with h0 | h0
    · have hi1 : i - 1 < l.length := by omega
      have hR1 : (rws eIn l)[i - 1]?.getD [] = eIn l[i - 1] := rws_at hi1
      have hp : prevAt l i = some l[i - 1] := by rw [prevAt, if_neg (by omega), List.getElem?_eq_getElem hi1]
      rw [hp] at hX
      have w0 : IntKind.wrap .i64 ((i : Int) - 1) = ((i - 1 : Nat) : Int) := by rw [wrap_i64 (by omega) (by omega)]; omega
      have g0 : ((0 : Int) < i) = True := by simp; omega
      have hen := ends88 l[i - 1].op
      have b1 : (0 : Int) ≤ ((i - 1 : Nat) : Int) ∧ ((i - 1 : Nat) : Int) < l.length := by omega
      have b0 : (0 : Int) ≤ (i : Int) := by omega
      generalize l[i - 1] = y at *
      simp -implicitDefEqProofs only [go_sem, Nat.reduceEqDiff, Nat.reduceLT, Nat.reduceLeDiff, Nat.reduceAdd, Nat.reduceSub, Nat.reduceMul, Nat.reduceBEq, ↓reduceIte, reduceCtorEq, Int.reduceEq, Int.reduceLT, Int.reduceLE, Int.reduceNeg, Int.reduceAdd, Int.reduceSub, Int.reduceToNat, rws_len, vc_cond, hT, h1, fr_zero, zFr_len, zFr_take, zFr_drop, eEn_len, eIn_len, eFr_len, eEn_take, eIn_take, eFr_take, eFr_drop, List.append_nil, List.getElem?_drop, n1, n2, n3, n4, n5, n6, hR, rws_len, w0, g0, hR1]
      refine ⟨b0, fun b11 m1 m2 m3 m4 m5 m6 => ?_⟩
      simp -implicitDefEqProofs only [go_sem, Nat.reduceEqDiff, Nat.reduceLT, Nat.reduceLeDiff, Nat.reduceAdd, Nat.reduceSub, Nat.reduceMul, Nat.reduceBEq, ↓reduceIte, reduceCtorEq, Int.reduceEq, Int.reduceLT, Int.reduceLE, Int.reduceNeg, Int.reduceAdd, Int.reduceSub, Int.reduceToNat, rws_len, vc_cond, hT, h1, fr_zero, zFr_len, zFr_take, zFr_drop, eEn_len, eIn_len, eFr_len, eEn_take, eIn_take, eFr_take, eFr_drop, List.append_nil, List.getElem?_drop, n1, n2, n3, n4, n5, n6, m1, m2, m3, m4, m5, m6, set_set, hR, rws_len, w0, g0, hR1, eIn_1, Nat.mul_one]
      refine ⟨b1, callB_pure hen ?_⟩
      cases hpe : endsB y.op.val
      case true =>
        rw [show prevEnds (some y) = endsB y.op.val from rfl, hpe, if_pos rfl] at hX
        rw [← hX, fr_fr0]
        simp -implicitDefEqProofs only [go_sem, Nat.reduceEqDiff, Nat.reduceLT, Nat.reduceLeDiff, Nat.reduceAdd, Nat.reduceSub, Nat.reduceMul, Nat.reduceBEq, ↓reduceIte, reduceCtorEq, Int.reduceEq, Int.reduceLT, Int.reduceLE, Int.reduceNeg, Int.reduceAdd, Int.reduceSub, Int.reduceToNat, rws_len, vc_cond, hT, fr_zero, zFr_len, zFr_take, zFr_drop, eEn_len, eIn_len, eFr_len, eEn_take, eIn_take, eFr_take, eFr_drop, List.append_nil, List.getElem?_drop, n1, n2, n3, n4, n5, n6, m1, m2, m3, m4, m5, m6, set_set, resM_cell]
        all_goals exact DLe.refl _
      rw [show prevEnds (some y) = endsB y.op.val from rfl, hpe] at hX
      rw [if_neg (by simp)] at hX
      simp -implicitDefEqProofs only [go_sem, Nat.reduceEqDiff, Nat.reduceLT, Nat.reduceLeDiff, Nat.reduceAdd, Nat.reduceSub, Nat.reduceMul, Nat.reduceBEq, ↓reduceIte, reduceCtorEq, Int.reduceEq, Int.reduceLT, Int.reduceLE, Int.reduceNeg, Int.reduceAdd, Int.reduceSub, Int.reduceToNat, rws_len, vc_cond, hT, fr_zero, zFr_len, zFr_take, zFr_drop, eEn_len, eIn_len, eFr_len, eEn_take, eIn_take, eFr_take, eFr_drop, List.append_nil, List.getElem?_drop, n1, n2, n3, n4, n5, n6, m1, m2, m3, m4, m5, m6, set_set]
      refine callB_pure ha ?_
      simp -implicitDefEqProofs only [go_sem, Nat.reduceEqDiff, Nat.reduceLT, Nat.reduceLeDiff, Nat.reduceAdd, Nat.reduceSub, Nat.reduceMul, Nat.reduceBEq, ↓reduceIte, reduceCtorEq, Int.reduceEq, Int.reduceLT, Int.reduceLE, Int.reduceNeg, Int.reduceAdd, Int.reduceSub, Int.reduceToNat, rws_len, vc_cond, hT, fr_zero, zFr_len, zFr_take, zFr_drop, eEn_len, eIn_len, eFr_len, eEn_take, eIn_take, eFr_take, eFr_drop, List.append_nil, List.getElem?_drop, n1, n2, n3, n4, n5, n6, m1, m2, m3, m4, m5, m6]
      intro b12 k1 k2 k3 k4 k5 k6 k7 k8
      by_cases hz : (applyR e g x).2 = 0
      · have hz' : (((applyR e g x).2 : Int) = 0) = True := by simp; omega
        rw [if_neg (show ¬ (applyR e g x).2 ≠ 0 from fun h => h hz)] at hX
        simp -implicitDefEqProofs only [go_sem, Nat.reduceEqDiff, Nat.reduceLT, Nat.reduceLeDiff, Nat.reduceAdd, Nat.reduceSub, Nat.reduceMul, Nat.reduceBEq, ↓reduceIte, reduceCtorEq, Int.reduceEq, Int.reduceLT, Int.reduceLE, Int.reduceNeg, Int.reduceAdd, Int.reduceSub, Int.reduceToNat, rws_len, vc_cond, hT, fr_zero, zFr_len, zFr_take, zFr_drop, eEn_len, eIn_len, eFr_len, eEn_take, eIn_take, eFr_take, eFr_drop, List.append_nil, List.getElem?_drop, n1, n2, n3, n4, n5, n6, m1, m2, m3, m4, m5, m6, k1, k2, k3, k4, k5, k6, k7, k8, set_set, hz']
        refine ⟨(i + 1, (applyR e g x).1), ⟨h, hX⟩, hdone, ?_, ?_⟩
        · rw [wi]
        · rw [set4 (σ := ({} : St).set b3 (eEn e)) n3 m3 k5]
          exact St.le.trans (le_add (b := b11) (by simp [has_set, St.not_has_nil, n1, n2, n3, n4, n5, n6, m1, m2, m3, m4, m5, m6])) (le_add (b := b12) (by simp [has_set, St.not_has_nil, n1, n2, n3, n4, n5, n6, m1, m2, m3, m4, m5, m6, k1, k2, k3, k4, k5, k6, k7, k8]))
      · have hz' : (((applyR e g x).2 : Int) = 0) = False := by simp; omega
        rw [if_pos hz] at hX
        rw [← hX, fr_fr0]
        simp -implicitDefEqProofs only [go_sem, Nat.reduceEqDiff, Nat.reduceLT, Nat.reduceLeDiff, Nat.reduceAdd, Nat.reduceSub, Nat.reduceMul, Nat.reduceBEq, ↓reduceIte, reduceCtorEq, Int.reduceEq, Int.reduceLT, Int.reduceLE, Int.reduceNeg, Int.reduceAdd, Int.reduceSub, Int.reduceToNat, rws_len, vc_cond, hT, fr_zero, zFr_len, zFr_take, zFr_drop, eEn_len, eIn_len, eFr_len, eEn_take, eIn_take, eFr_take, eFr_drop, List.append_nil, List.getElem?_drop, n1, n2, n3, n4, n5, n6, m1, m2, m3, m4, m5, m6, k1, k2, k3, k4, k5, k6, k7, k8, set_set, hz', resM_cell]
        all_goals exact DLe.refl _
    · subst h0
      rw [show prevAt l 0 = none from rfl, show prevEnds none = false from rfl] at hX
      rw [if_neg (by simp)] at hX
      have h1 : ((0 : Int) < l.length) = True := by simp; omega
      simp -implicitDefEqProofs only [go_sem, Nat.reduceEqDiff, Nat.reduceLT, Nat.reduceLeDiff, Nat.reduceAdd, Nat.reduceSub, Nat.reduceMul, Nat.reduceBEq, ↓reduceIte, reduceCtorEq, Int.reduceEq, Int.reduceLT, Int.reduceLE, Int.reduceNeg, Int.reduceAdd, Int.reduceSub, Int.reduceToNat, rws_len, vc_cond, hT, h1, fr_zero, zFr_len, zFr_take, zFr_drop, eEn_len, eIn_len, eFr_len, eEn_take, eIn_take, eFr_take, eFr_drop, List.append_nil, List.getElem?_drop, n1, n2, n3, n4, n5, n6, hR, rws_len, Int.ofNat_zero]
      intro b11 m1 m2 m3 m4 m5 m6
      simp -implicitDefEqProofs only [go_sem, Nat.reduceEqDiff, Nat.reduceLT, Nat.reduceLeDiff, Nat.reduceAdd, Nat.reduceSub, Nat.reduceMul, Nat.reduceBEq, ↓reduceIte, reduceCtorEq, Int.reduceEq, Int.reduceLT, Int.reduceLE, Int.reduceNeg, Int.reduceAdd, Int.reduceSub, Int.reduceToNat, rws_len, vc_cond, hT, h1, fr_zero, zFr_len, zFr_take, zFr_drop, eEn_len, eIn_len, eFr_len, eEn_take, eIn_take, eFr_take, eFr_drop, List.append_nil, List.getElem?_drop, n1, n2, n3, n4, n5, n6, m1, m2, m3, m4, m5, m6, set_set, hR, rws_len, eIn_1, Nat.mul_one, Int.ofNat_zero]
      refine callB_pure ha ?_
      simp -implicitDefEqProofs only [go_sem, Nat.reduceEqDiff, Nat.reduceLT, Nat.reduceLeDiff, Nat.reduceAdd, Nat.reduceSub, Nat.reduceMul, Nat.reduceBEq, ↓reduceIte, reduceCtorEq, Int.reduceEq, Int.reduceLT, Int.reduceLE, Int.reduceNeg, Int.reduceAdd, Int.reduceSub, Int.reduceToNat, rws_len, vc_cond, hT, fr_zero, zFr_len, zFr_take, zFr_drop, eEn_len, eIn_len, eFr_len, eEn_take, eIn_take, eFr_take, eFr_drop, List.append_nil, List.getElem?_drop, n1, n2, n3, n4, n5, n6, m1, m2, m3, m4, m5, m6]
      intro b12 k1 k2 k3 k4 k5 k6 k7 k8
      by_cases hz : (applyR e g x).2 = 0
      · have hz' : (((applyR e g x).2 : Int) = 0) = True := by simp; omega
        rw [if_neg (show ¬ (applyR e g x).2 ≠ 0 from fun h => h hz)] at hX
        simp -implicitDefEqProofs only [go_sem, Nat.reduceEqDiff, Nat.reduceLT, Nat.reduceLeDiff, Nat.reduceAdd, Nat.reduceSub, Nat.reduceMul, Nat.reduceBEq, ↓reduceIte, reduceCtorEq, Int.reduceEq, Int.reduceLT, Int.reduceLE, Int.reduceNeg, Int.reduceAdd, Int.reduceSub, Int.reduceToNat, rws_len, vc_cond, hT, fr_zero, zFr_len, zFr_take, zFr_drop, eEn_len, eIn_len, eFr_len, eEn_take, eIn_take, eFr_take, eFr_drop, List.append_nil, List.getElem?_drop, n1, n2, n3, n4, n5, n6, m1, m2, m3, m4, m5, m6, k1, k2, k3, k4, k5, k6, k7, k8, set_set, hz']
        refine ⟨(0 + 1, (applyR e g x).1), ⟨h, hX⟩, hdone, ?_, ?_⟩
        · rw [wi]
        · rw [set4 (σ := ({} : St).set b3 (eEn e)) n3 m3 k5]
          exact St.le.trans (le_add (b := b11) (by simp [has_set, St.not_has_nil, n1, n2, n3, n4, n5, n6, m1, m2, m3, m4, m5, m6])) (le_add (b := b12) (by simp [has_set, St.not_has_nil, n1, n2, n3, n4, n5, n6, m1, m2, m3, m4, m5, m6, k1, k2, k3, k4, k5, k6, k7, k8]))
      · have hz' : (((applyR e g x).2 : Int) = 0) = False := by simp; omega
        rw [if_pos hz] at hX
        rw [← hX, fr_fr0]
        simp -implicitDefEqProofs only [go_sem, Nat.reduceEqDiff, Nat.reduceLT, Nat.reduceLeDiff, Nat.reduceAdd, Nat.reduceSub, Nat.reduceMul, Nat.reduceBEq, ↓reduceIte, reduceCtorEq, Int.reduceEq, Int.reduceLT, Int.reduceLE, Int.reduceNeg, Int.reduceAdd, Int.reduceSub, Int.reduceToNat, rws_len, vc_cond, hT, fr_zero, zFr_len, zFr_take, zFr_drop, eEn_len, eIn_len, eFr_len, eEn_take, eIn_take, eFr_take, eFr_drop, List.append_nil, List.getElem?_drop, n1, n2, n3, n4, n5, n6, m1, m2, m3, m4, m5, m6, k1, k2, k3, k4, k5, k6, k7, k8, set_set, hz', resM_cell]
        all_goals exact DLe.refl _
  · have h1 : ((i : Int) < l.length) = False := by simp; omega
    rw [List.drop_eq_nil_of_le (by omega), runGo] at hX
    rw [← hX]
    simp -implicitDefEqProofs only [go_sem, Nat.reduceEqDiff, Nat.reduceLT, Nat.reduceLeDiff, Nat.reduceAdd, Nat.reduceSub, Nat.reduceMul, Nat.reduceBEq, ↓reduceIte, reduceCtorEq, Int.reduceEq, Int.reduceLT, Int.reduceLE, Int.reduceNeg, Int.reduceAdd, Int.reduceSub, Int.reduceToNat, rws_len, vc_cond, hT, h1, fr_zero, zFr_len, zFr_take, zFr_drop, eEn_len, eIn_len, eFr_len, eEn_take, eIn_take, eFr_take, eFr_drop, List.append_nil, List.getElem?_drop, n1, n2, n3, n4, n5, n6, set_set, resM_cell]
    all_goals exact DLe.refl _

theorem refLine45 (e : En) (f : Fr) (l : List Ins) (o : Own) (hw : WideE e) (hl : l.length * 32 ≤ 562949953421312) : PCall Try.prog 45 [.agg (eEn e), .agg (eFr f), .slice o (rws eIn l)] (.tup [.agg (eFr (runF e f l).1), .int .i64 (runF e f l).2.1, .int .i64 (runF e f l).2.2]) := by
  have e0 : (eEn e)[0]? = some (.slice .no (rws eC e.cs)) := rfl
  refine F45.pcall' rfl fun T hT => ?_
  simp -implicitDefEqProofs only [go_sem, Nat.reduceEqDiff, Nat.reduceLT, Nat.reduceLeDiff, Nat.reduceAdd, Nat.reduceSub, Nat.reduceMul, Nat.reduceBEq, ↓reduceIte, reduceCtorEq, Int.reduceEq, Int.reduceLT, Int.reduceLE, Int.reduceNeg, Int.reduceAdd, Int.reduceSub, Int.reduceToNat, rws_len, vc_cond, c45, hT, fr_zero, zFr_len, zFr_take, zFr_drop, eEn_len, eIn_len, eFr_len, eEn_take, eIn_take, eFr_take, eFr_drop, List.append_nil, List.getElem?_drop]
  intro b3 b4 n1 n2 b6 n3 n4 n5 n6
  simp -implicitDefEqProofs only [go_sem, Nat.reduceEqDiff, Nat.reduceLT, Nat.reduceLeDiff, Nat.reduceAdd, Nat.reduceSub, Nat.reduceMul, Nat.reduceBEq, ↓reduceIte, reduceCtorEq, Int.reduceEq, Int.reduceLT, Int.reduceLE, Int.reduceNeg, Int.reduceAdd, Int.reduceSub, Int.reduceToNat, rws_len, vc_cond, hT, fr_zero, zFr_len, zFr_take, zFr_drop, eEn_len, eIn_len, eFr_len, eEn_take, eIn_take, eFr_take, eFr_drop, List.append_nil, List.getElem?_drop, n1, n2, n3, n4, n5, n6]
  refine callB_pure (can73 e hw) ?_
  cases hcan : canB e
  · simp -implicitDefEqProofs only [go_sem, Nat.reduceEqDiff, Nat.reduceLT, Nat.reduceLeDiff, Nat.reduceAdd, Nat.reduceSub, Nat.reduceMul, Nat.reduceBEq, ↓reduceIte, reduceCtorEq, Int.reduceEq, Int.reduceLT, Int.reduceLE, Int.reduceNeg, Int.reduceAdd, Int.reduceSub, Int.reduceToNat, rws_len, vc_cond, hT, fr_zero, zFr_len, zFr_take, zFr_drop, eEn_len, eIn_len, eFr_len, eEn_take, eIn_take, eFr_take, eFr_drop, List.append_nil, List.getElem?_drop, n1, n2, n3, n4, n5, n6, set_set, resM_cell]
    rw [runF, if_pos hcan, fr_fr0]
    exact DLe.refl _
  have hc := canB_can hw hcan
  simp -implicitDefEqProofs only [go_sem, Nat.reduceEqDiff, Nat.reduceLT, Nat.reduceLeDiff, Nat.reduceAdd, Nat.reduceSub, Nat.reduceMul, Nat.reduceBEq, ↓reduceIte, reduceCtorEq, Int.reduceEq, Int.reduceLT, Int.reduceLE, Int.reduceNeg, Int.reduceAdd, Int.reduceSub, Int.reduceToNat, rws_len, vc_cond, hT, fr_zero, zFr_len, zFr_take, zFr_drop, eEn_len, eIn_len, eFr_len, eEn_take, eIn_take, eFr_take, eFr_drop, List.append_nil, List.getElem?_drop, n1, n2, n3, n4, n5, n6, e0]
  refine callB_pure (refCheck40 e.cs .no f) ?_
  by_cases hck : checkF e.cs.length f = 0
  case neg =>
    have hck' : ((checkF e.cs.length f : Int) = 0) = False := by simp; omega
    simp -implicitDefEqProofs only [go_sem, Nat.reduceEqDiff, Nat.reduceLT, Nat.reduceLeDiff, Nat.reduceAdd, Nat.reduceSub, Nat.reduceMul, Nat.reduceBEq, ↓reduceIte, reduceCtorEq, Int.reduceEq, Int.reduceLT, Int.reduceLE, Int.reduceNeg, Int.reduceAdd, Int.reduceSub, Int.reduceToNat, rws_len, vc_cond, hT, fr_zero, zFr_len, zFr_take, zFr_drop, eEn_len, eIn_len, eFr_len, eEn_take, eIn_take, eFr_take, eFr_drop, List.append_nil, List.getElem?_drop, n1, n2, n3, n4, n5, n6, set_set, resM_cell, hck']
    rw [runF, if_neg (by simp [hcan]), if_pos hck, fr_fr0]
    exact DLe.refl _
  have hck' : ((checkF e.cs.length f : Int) = 0) = True := by simp; omega
  have hX : ∃ X, runGo e none 0 f l = X := ⟨_, rfl⟩
  obtain ⟨X, hX⟩ := hX
  have hlf : runF e f l = X := by rw [runF, if_neg (by simp [hcan]), if_neg (by simp [hck]), hX]
  rw [hlf]
  clear hlf
  simp -implicitDefEqProofs only [go_sem, Nat.reduceEqDiff, Nat.reduceLT, Nat.reduceLeDiff, Nat.reduceAdd, Nat.reduceSub, Nat.reduceMul, Nat.reduceBEq, ↓reduceIte, reduceCtorEq, Int.reduceEq, Int.reduceLT, Int.reduceLE, Int.reduceNeg, Int.reduceAdd, Int.reduceSub, Int.reduceToNat, rws_len, vc_cond, hT, fr_zero, zFr_len, zFr_take, zFr_drop, eEn_len, eIn_len, eFr_len, eEn_take, eIn_take, eFr_take, eFr_drop, List.append_nil, List.getElem?_drop, n1, n2, n3, n4, n5, n6, hck', rws_len]
  refine loopL F45 (fun x : Nat × Fr => [(2, .slice o (rws eIn l)), (3, .ptr b3 0), (4, .ptr b4 0), (6, .ptr b6 0), (26, .slice o (rws eIn l)), (27, .int .i64 l.length), (28, .int .i64 x.1)]) (fun x => ((({} : St).set b3 (eEn e)).set b4 (eFr x.2)).set b6 zFr)
    (fun x => x.1 ≤ l.length ∧ runGo e (prevAt l x.1) x.1 x.2 (l.drop x.1) = X) (fun x => l.length - x.1) (0, f) ⟨Nat.zero_le _, hX⟩ ?_ (St.le.refl _) ?_
  · simp -implicitDefEqProofs only [go_sem, Nat.reduceEqDiff, Nat.reduceLT, Nat.reduceLeDiff, Nat.reduceAdd, Nat.reduceSub, Nat.reduceMul, Nat.reduceBEq, ↓reduceIte, reduceCtorEq, Int.reduceEq, Int.reduceLT, Int.reduceLE, Int.reduceNeg, Int.reduceAdd, Int.reduceSub, Int.reduceToNat, rws_len, vc_cond, hT, Int.ofNat_zero]
  clear hT T hX hck' hck
  rintro ⟨i, g⟩ ⟨hi, hX⟩ T hT
  simp only at hi hX hT ⊢
  by_cases h : i < l.length
  · have h1 : ((i : Int) < l.length) = True := by simp; omega
    have hR : (rws eIn l)[i]?.getD [] = eIn l[i] := rws_at h
    rw [List.drop_eq_getElem_cons h, runGo] at hX
    have hpv : ∀ j, prevAt l (i + 1) = some j ↔ l[i] = j := fun j => by rw [prevAt, if_neg (by omega), Nat.add_sub_cancel, List.getElem?_eq_getElem h]; simp
    have hpv2 : prevAt l (i + 1) = some l[i] := (hpv _).2 rfl
    have hgo : runGo e (some l[i]) (i + 1) = runGo e (prevAt l (i + 1)) (i + 1) := by rw [hpv2]
    rw [hgo] at hX
    have ha := refApply37 e g l[i] hw
    have h0i : (0 < i) ∨ i = 0 := by omega
    generalize l[i] = x at *
    have wi : IntKind.wrap .i64 ((i : Int) + 1) = ((i + 1 : Nat) : Int) := by rw [wrap_i64 (by omega) (by omega)]; omega
    have hdone : l.length - (i + 1) < l.length - i := by omega
    -- what stands behind the look at the one ahead
    have go : prevEnds (prevAt l i) = false → ∀ T' : Env, True := fun _ _ => trivial
    rcases h0i with h0 | h0
    · have hi1 : i - 1 < l.length := by omega
      have hR1 : (rws eIn l)[i - 1]?.getD [] = eIn l[i - 1] := rws_at hi1
      have hp : prevAt l i = some l[i - 1] := by rw [prevAt, if_neg (by omega), List.getElem?_eq_getElem hi1]
      rw [hp] at hX
      have w0 : IntKind.wrap .i64 ((i : Int) - 1) = ((i - 1 : Nat) : Int) := by rw [wrap_i64 (by omega) (by omega)]; omega
      have g0 : ((0 : Int) < i) = True := by simp; omega
      have hen := refEnds41 l[i - 1].op
      have b1 : (0 : Int) ≤ ((i - 1 : Nat) : Int) ∧ ((i - 1 : Nat) : Int) < l.length := by omega
      have b0 : (0 : Int) ≤ (i : Int) := by omega
      generalize l[i - 1] = y at *
      simp -implicitDefEqProofs only [go_sem, Nat.reduceEqDiff, Nat.reduceLT, Nat.reduceLeDiff, Nat.reduceAdd, Nat.reduceSub, Nat.reduceMul, Nat.reduceBEq, ↓reduceIte, reduceCtorEq, Int.reduceEq, Int.reduceLT, Int.reduceLE, Int.reduceNeg, Int.reduceAdd, Int.reduceSub, Int.reduceToNat, rws_len, vc_cond, hT, h1, fr_zero, zFr_len, zFr_take, zFr_drop, eEn_len, eIn_len, eFr_len, eEn_take, eIn_take, eFr_take, eFr_drop, List.append_nil, List.getElem?_drop, n1, n2, n3, n4, n5, n6, hR, rws_len, w0, g0, hR1]
      refine ⟨b0, fun b11 m1 m2 m3 m4 m5 m6 => ?_⟩
      simp -implicitDefEqProofs only [go_sem, Nat.reduceEqDiff, Nat.reduceLT, Nat.reduceLeDiff, Nat.reduceAdd, Nat.reduceSub, Nat.reduceMul, Nat.reduceBEq, ↓reduceIte, reduceCtorEq, Int.reduceEq, Int.reduceLT, Int.reduceLE, Int.reduceNeg, Int.reduceAdd, Int.reduceSub, Int.reduceToNat, rws_len, vc_cond, hT, h1, fr_zero, zFr_len, zFr_take, zFr_drop, eEn_len, eIn_len, eFr_len, eEn_take, eIn_take, eFr_take, eFr_drop, List.append_nil, List.getElem?_drop, n1, n2, n3, n4, n5, n6, m1, m2, m3, m4, m5, m6, set_set, hR, rws_len, w0, g0, hR1, eIn_1, Nat.mul_one]
      refine ⟨b1, callB_pure hen ?_⟩
      cases hpe : endsB y.op.val
      case true =>
        rw [show prevEnds (some y) = endsB y.op.val from rfl, hpe, if_pos rfl] at hX
        rw [← hX, fr_fr0]
        simp -implicitDefEqProofs only [go_sem, Nat.reduceEqDiff, Nat.reduceLT, Nat.reduceLeDiff, Nat.reduceAdd, Nat.reduceSub, Nat.reduceMul, Nat.reduceBEq, ↓reduceIte, reduceCtorEq, Int.reduceEq, Int.reduceLT, Int.reduceLE, Int.reduceNeg, Int.reduceAdd, Int.reduceSub, Int.reduceToNat, rws_len, vc_cond, hT, fr_zero, zFr_len, zFr_take, zFr_drop, eEn_len, eIn_len, eFr_len, eEn_take, eIn_take, eFr_take, eFr_drop, List.append_nil, List.getElem?_drop, n1, n2, n3, n4, n5, n6, m1, m2, m3, m4, m5, m6, set_set, resM_cell]
        all_goals exact DLe.refl _
      rw [show prevEnds (some y) = endsB y.op.val from rfl, hpe] at hX
      rw [if_neg (by simp)] at hX
      simp -implicitDefEqProofs only [go_sem, Nat.reduceEqDiff, Nat.reduceLT, Nat.reduceLeDiff, Nat.reduceAdd, Nat.reduceSub, Nat.reduceMul, Nat.reduceBEq, ↓reduceIte, reduceCtorEq, Int.reduceEq, Int.reduceLT, Int.reduceLE, Int.reduceNeg, Int.reduceAdd, Int.reduceSub, Int.reduceToNat, rws_len, vc_cond, hT, fr_zero, zFr_len, zFr_take, zFr_drop, eEn_len, eIn_len, eFr_len, eEn_take, eIn_take, eFr_take, eFr_drop, List.append_nil, List.getElem?_drop, n1, n2, n3, n4, n5, n6, m1, m2, m3, m4, m5, m6, set_set]
      refine callB_pure ha ?_
      simp -implicitDefEqProofs only [go_sem, Nat.reduceEqDiff, Nat.reduceLT, Nat.reduceLeDiff, Nat.reduceAdd, Nat.reduceSub, Nat.reduceMul, Nat.reduceBEq, ↓reduceIte, reduceCtorEq, Int.reduceEq, Int.reduceLT, Int.reduceLE, Int.reduceNeg, Int.reduceAdd, Int.reduceSub, Int.reduceToNat, rws_len, vc_cond, hT, fr_zero, zFr_len, zFr_take, zFr_drop, eEn_len, eIn_len, eFr_len, eEn_take, eIn_take, eFr_take, eFr_drop, List.append_nil, List.getElem?_drop, n1, n2, n3, n4, n5, n6, m1, m2, m3, m4, m5, m6]
      intro b12 k1 k2 k3 k4 k5 k6 k7 k8
      by_cases hz : (applyR e g x).2 = 0
      · have hz' : (((applyR e g x).2 : Int) = 0) = True := by simp; omega
        rw [if_neg (show ¬ (applyR e g x).2 ≠ 0 from fun h => h hz)] at hX
        simp -implicitDefEqProofs only [go_sem, Nat.reduceEqDiff, Nat.reduceLT, Nat.reduceLeDiff, Nat.reduceAdd, Nat.reduceSub, Nat.reduceMul, Nat.reduceBEq, ↓reduceIte, reduceCtorEq, Int.reduceEq, Int.reduceLT, Int.reduceLE, Int.reduceNeg, Int.reduceAdd, Int.reduceSub, Int.reduceToNat, rws_len, vc_cond, hT, fr_zero, zFr_len, zFr_take, zFr_drop, eEn_len, eIn_len, eFr_len, eEn_take, eIn_take, eFr_take, eFr_drop, List.append_nil, List.getElem?_drop, n1, n2, n3, n4, n5, n6, m1, m2, m3, m4, m5, m6, k1, k2, k3, k4, k5, k6, k7, k8, set_set, hz']
        refine ⟨(i + 1, (applyR e g x).1), ⟨h, hX⟩, hdone, ?_, ?_⟩
        · rw [wi]
        · rw [set4 (σ := ({} : St).set b3 (eEn e)) n3 m3 k5]
          exact St.le.trans (le_add (b := b11) (by simp [has_set, St.not_has_nil, n1, n2, n3, n4, n5, n6, m1, m2, m3, m4, m5, m6])) (le_add (b := b12) (by simp [has_set, St.not_has_nil, n1, n2, n3, n4, n5, n6, m1, m2, m3, m4, m5, m6, k1, k2, k3, k4, k5, k6, k7, k8]))
      · have hz' : (((applyR e g x).2 : Int) = 0) = False := by simp; omega
        rw [if_pos hz] at hX
        rw [← hX, fr_fr0]
        simp -implicitDefEqProofs only [go_sem, Nat.reduceEqDiff, Nat.reduceLT, Nat.reduceLeDiff, Nat.reduceAdd, Nat.reduceSub, Nat.reduceMul, Nat.reduceBEq, ↓reduceIte, reduceCtorEq, Int.reduceEq, Int.reduceLT, Int.reduceLE, Int.reduceNeg, Int.reduceAdd, Int.reduceSub, Int.reduceToNat, rws_len, vc_cond, hT, fr_zero, zFr_len, zFr_take, zFr_drop, eEn_len, eIn_len, eFr_len, eEn_take, eIn_take, eFr_take, eFr_drop, List.append_nil, List.getElem?_drop, n1, n2, n3, n4, n5, n6, m1, m2, m3, m4, m5, m6, k1, k2, k3, k4, k5, k6, k7, k8, set_set, hz', resM_cell]
        all_goals exact DLe.refl _
    · subst h0
      rw [show prevAt l 0 = none from rfl, show prevEnds none = false from rfl] at hX
      rw [if_neg (by simp)] at hX
      have h1 : ((0 : Int) < l.length) = True := by simp; omega
      simp -implicitDefEqProofs only [go_sem, Nat.reduceEqDiff, Nat.reduceLT, Nat.reduceLeDiff, Nat.reduceAdd, Nat.reduceSub, Nat.reduceMul, Nat.reduceBEq, ↓reduceIte, reduceCtorEq, Int.reduceEq, Int.reduceLT, Int.reduceLE, Int.reduceNeg, Int.reduceAdd, Int.reduceSub, Int.reduceToNat, rws_len, vc_cond, hT, h1, fr_zero, zFr_len, zFr_take, zFr_drop, eEn_len, eIn_len, eFr_len, eEn_take, eIn_take, eFr_take, eFr_drop, List.append_nil, List.getElem?_drop, n1, n2, n3, n4, n5, n6, hR, rws_len, Int.ofNat_zero]
      intro b11 m1 m2 m3 m4 m5 m6
      simp -implicitDefEqProofs only [go_sem, Nat.reduceEqDiff, Nat.reduceLT, Nat.reduceLeDiff, Nat.reduceAdd, Nat.reduceSub, Nat.reduceMul, Nat.reduceBEq, ↓reduceIte, reduceCtorEq, Int.reduceEq, Int.reduceLT, Int.reduceLE, Int.reduceNeg, Int.reduceAdd, Int.reduceSub, Int.reduceToNat, rws_len, vc_cond, hT, h1, fr_zero, zFr_len, zFr_take, zFr_drop, eEn_len, eIn_len, eFr_len, eEn_take, eIn_take, eFr_take, eFr_drop, List.append_nil, List.getElem?_drop, n1, n2, n3, n4, n5, n6, m1, m2, m3, m4, m5, m6, set_set, hR, rws_len, eIn_1, Nat.mul_one, Int.ofNat_zero]
      refine callB_pure ha ?_
      simp -implicitDefEqProofs only [go_sem, Nat.reduceEqDiff, Nat.reduceLT, Nat.reduceLeDiff, Nat.reduceAdd, Nat.reduceSub, Nat.reduceMul, Nat.reduceBEq, ↓reduceIte, reduceCtorEq, Int.reduceEq, Int.reduceLT, Int.reduceLE, Int.reduceNeg, Int.reduceAdd, Int.reduceSub, Int.reduceToNat, rws_len, vc_cond, hT, fr_zero, zFr_len, zFr_take, zFr_drop, eEn_len, eIn_len, eFr_len, eEn_take, eIn_take, eFr_take, eFr_drop, List.append_nil, List.getElem?_drop, n1, n2, n3, n4, n5, n6, m1, m2, m3, m4, m5, m6]
      intro b12 k1 k2 k3 k4 k5 k6 k7 k8
      by_cases hz : (applyR e g x).2 = 0
      · have hz' : (((applyR e g x).2 : Int) = 0) = True := by simp; omega
        rw [if_neg (show ¬ (applyR e g x).2 ≠ 0 from fun h => h hz)] at hX
        simp -implicitDefEqProofs only [go_sem, Nat.reduceEqDiff, Nat.reduceLT, Nat.reduceLeDiff, Nat.reduceAdd, Nat.reduceSub, Nat.reduceMul, Nat.reduceBEq, ↓reduceIte, reduceCtorEq, Int.reduceEq, Int.reduceLT, Int.reduceLE, Int.reduceNeg, Int.reduceAdd, Int.reduceSub, Int.reduceToNat, rws_len, vc_cond, hT, fr_zero, zFr_len, zFr_take, zFr_drop, eEn_len, eIn_len, eFr_len, eEn_take, eIn_take, eFr_take, eFr_drop, List.append_nil, List.getElem?_drop, n1, n2, n3, n4, n5, n6, m1, m2, m3, m4, m5, m6, k1, k2, k3, k4, k5, k6, k7, k8, set_set, hz']
        refine ⟨(0 + 1, (applyR e g x).1), ⟨h, hX⟩, hdone, ?_, ?_⟩
        · rw [wi]
        · rw [set4 (σ := ({} : St).set b3 (eEn e)) n3 m3 k5]
          exact St.le.trans (le_add (b := b11) (by simp [has_set, St.not_has_nil, n1, n2, n3, n4, n5, n6, m1, m2, m3, m4, m5, m6])) (le_add (b := b12) (by simp [has_set, St.not_has_nil, n1, n2, n3, n4, n5, n6, m1, m2, m3, m4, m5, m6, k1, k2, k3, k4, k5, k6, k7, k8]))
      · have hz' : (((applyR e g x).2 : Int) = 0) = False := by simp; omega
        rw [if_pos hz] at hX
        rw [← hX, fr_fr0]
        simp -implicitDefEqProofs only [go_sem, Nat.reduceEqDiff, Nat.reduceLT, Nat.reduceLeDiff, Nat.reduceAdd, Nat.reduceSub, Nat.reduceMul, Nat.reduceBEq, ↓reduceIte, reduceCtorEq, Int.reduceEq, Int.reduceLT, Int.reduceLE, Int.reduceNeg, Int.reduceAdd, Int.reduceSub, Int.reduceToNat, rws_len, vc_cond, hT, fr_zero, zFr_len, zFr_take, zFr_drop, eEn_len, eIn_len, eFr_len, eEn_take, eIn_take, eFr_take, eFr_drop, List.append_nil, List.getElem?_drop, n1, n2, n3, n4, n5, n6, m1, m2, m3, m4, m5, m6, k1, k2, k3, k4, k5, k6, k7, k8, set_set, hz', resM_cell]
        all_goals exact DLe.refl _
  · have h1 : ((i : Int) < l.length) = False := by simp; omega
    rw [List.drop_eq_nil_of_le (by omega), runGo] at hX
    rw [← hX]
    simp -implicitDefEqProofs only [go_sem, Nat.reduceEqDiff, Nat.reduceLT, Nat.reduceLeDiff, Nat.reduceAdd, Nat.reduceSub, Nat.reduceMul, Nat.reduceBEq, ↓reduceIte, reduceCtorEq, Int.reduceEq, Int.reduceLT, Int.reduceLE, Int.reduceNeg, Int.reduceAdd, Int.reduceSub, Int.reduceToNat, rws_len, vc_cond, hT, h1, fr_zero, zFr_len, zFr_take, zFr_drop, eEn_len, eIn_len, eFr_len, eEn_take, eIn_take, eFr_take, eFr_drop, List.append_nil, List.getElem?_drop, n1, n2, n3, n4, n5, n6, set_set, resM_cell]
    all_goals exact DLe.refl _
end Go.AL
namespace Go.AL
open Go.Proofs
set_option linter.unusedSimpArgs false
set_option linter.unusedVariables false
set_option maxRecDepth 100000
set_option maxHeartbeats 4000000

theorem runGo_shift (e : En) (d : Nat) : ∀ (r : List Ins) (p : Option Ins) (k : Nat) (f : Fr), runGo e p (k + d) f r = ((runGo e p k f r).1, (if (runGo e p k f r).2.2 = 0 then 0 else (runGo e p k f r).2.1 + d), (runGo e p k f r).2.2)
  | [], p, k, f => by simp [runGo]
  | x :: r, p, k, f => by
    rw [runGo, runGo]
    by_cases h1 : prevEnds p = true
    · rw [if_pos h1, if_pos h1]; simp
    rw [if_neg h1, if_neg h1]
    by_cases h2 : (applyR e f x).2 ≠ 0
    · rw [if_pos h2, if_pos h2]; simp [h2]
    rw [if_neg h2, if_neg h2, show k + d + 1 = k + 1 + d by omega]
    exact runGo_shift e d r _ _ _
theorem runGo_err (e : En) : ∀ (r : List Ins) (p : Option Ins) (k : Nat) (f : Fr), (runGo e p k f r).2.2 ≠ 0 → (runGo e p k f r).1 = fr0 0
  | [], p, k, f, h => absurd rfl h
  | x :: r, p, k, f, h => by
    rw [runGo] at h ⊢
    split
    · rfl
    rename_i h1
    rw [if_neg h1] at h
    split
    · rfl
    rename_i h2
    rw [if_neg h2] at h
    exact runGo_err e r _ _ _ h
theorem runGo_at (e : En) : ∀ (r : List Ins) (p : Option Ins) (k : Nat) (f : Fr), (runGo e p k f r).2.2 = 0 → (runGo e p k f r).2.1 = 0
  | [], p, k, f, h => rfl
  | x :: r, p, k, f, h => by
    rw [runGo] at h ⊢
    split
    · rename_i h1; rw [if_pos h1] at h; cases h
    rename_i h1
    rw [if_neg h1] at h
    split
    · rename_i h2; rw [if_pos h2] at h; exact absurd h h2
    rename_i h2
    rw [if_neg h2] at h
    exact runGo_at e r _ _ _ h
theorem runGo_check {e : En} (hw : WideE e) : ∀ (r : List Ins) (p : Option Ins) (k : Nat) (f : Fr), checkF e.cs.length f = 0 → (runGo e p k f r).2.2 = 0 → checkF e.cs.length (runGo e p k f r).1 = 0
  | [], p, k, f, hf, h => hf
  | x :: r, p, k, f, hf, h => by
    rw [runGo] at h ⊢
    split
    · rename_i h1; rw [if_pos h1] at h; cases h
    rename_i h1
    rw [if_neg h1] at h
    split
    · rename_i h2; rw [if_pos h2] at h; exact absurd h h2
    rename_i h2
    rw [if_neg h2] at h
    have hd : Done e f x := done_iff.1 (Classical.byContradiction h2)
    exact runGo_check hw r _ _ _ (done_check hw hd) h
theorem runGo_prev {e : En} {p : Option Ins} {k : Nat} {f : Fr} : ∀ {r : List Ins}, (r = [] ∨ prevEnds p = false) → runGo e p k f r = runGo e none k f r
  | [], _ => by simp [runGo]
  | x :: r, h => by
    have hp : prevEnds p = false := h.resolve_left (by simp)
    rw [runGo, runGo, hp]; rfl
theorem runGo_append (e : En) (b : List Ins) : ∀ (a : List Ins) (p : Option Ins) (k : Nat) (f : Fr), runGo e p k f (a ++ b) = if (runGo e p k f a).2.2 ≠ 0 then runGo e p k f a else runGo e (if a = [] then p else a.getLast?) (k + a.length) (runGo e p k f a).1 b
  | [], p, k, f => by simp [runGo]
  | x :: a, p, k, f => by
    rw [List.cons_append, runGo, runGo]
    by_cases h1 : prevEnds p = true
    · rw [if_pos h1, if_pos h1, if_pos (by simp)]
    rw [if_neg h1, if_neg h1]
    by_cases h2 : (applyR e f x).2 ≠ 0
    · rw [if_pos h2, if_pos h2, if_pos h2]
    rw [if_neg h2, if_neg h2, runGo_append e b a (some x) (k + 1) (applyR e f x).1]
    by_cases h3 : (runGo e (some x) (k + 1) (applyR e f x).1 a).2.2 ≠ 0
    · rw [if_pos h3, if_pos h3]
    rw [if_neg h3, if_neg h3, if_neg (show ¬ x :: a = [] by simp), List.length_cons, show k + (a.length + 1) = k + 1 + a.length by omega]
    congr 1
    cases a with
    | nil => rfl
    | cons y a => rw [if_neg (by simp)]; rfl

/-- Is the second list ruled out, the first one ending? -/
def cutOff (a b : List Ins) : Prop := a ≠ [] ∧ b ≠ [] ∧ prevEnds a.getLast? = true
theorem run_parts {e : En} (hw : WideE e) (f : Fr) (a b : List Ins) (hn : ¬ cutOff a b) :
    ((runF e f a).2.2 ≠ 0 → runF e f (a ++ b) = runF e f a) ∧
    ((runF e f a).2.2 = 0 → runF e f (a ++ b) = ((runF e (runF e f a).1 b).1, (if (runF e (runF e f a).1 b).2.2 = 0 then 0 else a.length + (runF e (runF e f a).1 b).2.1), (runF e (runF e f a).1 b).2.2)) := by
  by_cases hcan : canB e = false
  · have h : ∀ g l, runF e g l = (fr0 0, 0, 1) := fun g l => by rw [runF, if_pos hcan]
    simp only [h]
    exact ⟨fun _ => trivial, fun h => by simp at h⟩
  by_cases hck : checkF e.cs.length f ≠ 0
  · have h : ∀ l, runF e f l = (fr0 0, 0, checkF e.cs.length f) := fun l => by rw [runF, if_neg hcan, if_pos hck]
    simp only [h]
    exact ⟨fun _ => trivial, fun h => absurd h hck⟩
  have hf : checkF e.cs.length f = 0 := Classical.byContradiction hck
  have h : ∀ l, runF e f l = runGo e none 0 f l := fun l => by rw [runF, if_neg hcan, if_neg hck]
  rw [h, h, runGo_append]
  refine ⟨fun h1 => by rw [if_pos h1], fun h1 => ?_⟩
  rw [if_neg (show ¬ (runGo e none 0 f a).2.2 ≠ 0 from fun hh => hh h1)]
  have hg := runGo_check hw a none 0 f hf h1
  have h2 : runF e (runGo e none 0 f a).1 b = runGo e none 0 (runGo e none 0 f a).1 b := by rw [runF, if_neg hcan, if_neg (fun hh => hh hg)]
  rw [h2, runGo_prev (p := if a = [] then none else a.getLast?)]
  · have := runGo_shift e a.length b none 0 (runGo e none 0 f a).1
    rw [this]
    simp only [Nat.add_comm]
  · by_cases ha : a = []
    · rw [if_pos ha]; exact .inr rfl
    · rw [if_neg ha]
      by_cases hb : b = []
      · exact .inl hb
      · right
        cases hp : prevEnds a.getLast?
        · rfl
        · exact absurd ⟨ha, hb, hp⟩ hn
theorem runF_err {e : En} {f : Fr} {l : List Ins} (h : (runF e f l).2.2 ≠ 0) : (runF e f l).1 = fr0 0 := by
  unfold runF at h ⊢
  split
  · rfl
  rename_i h1
  rw [if_neg h1] at h
  split
  · rfl
  rename_i h2
  rw [if_neg h2] at h
  exact runGo_err e l _ _ _ h
theorem runF_at {e : En} {f : Fr} {l : List Ins} (h : (runF e f l).2.2 = 0) : (runF e f l).2.1 = 0 := by
  unfold runF at h ⊢
  split
  · rfl
  rename_i h1
  rw [if_neg h1] at h
  split
  · rfl
  rename_i h2
  rw [if_neg h2] at h
  exact runGo_at e l _ _ _ h
theorem runGo_le (e : En) : ∀ (r : List Ins) (p : Option Ins) (k : Nat) (f : Fr), (runGo e p k f r).2.1 ≤ k + r.length
  | [], p, k, f => by simp [runGo]
  | x :: r, p, k, f => by
    rw [runGo]
    split
    · simp
    split
    · simp
    · have := runGo_le e r (some x) (k + 1) (applyR e f x).1
      simp only [List.length_cons]; omega
theorem runF_le {e : En} {f : Fr} {l : List Ins} : (runF e f l).2.1 ≤ l.length := by
  unfold runF
  split
  · simp
  split
  · simp
  · have := runGo_le e l none 0 f; omega
end Go.AL
namespace Go.AL
open Go.Proofs
set_option linter.unusedSimpArgs false
set_option linter.unusedVariables false
set_option maxRecDepth 100000
set_option maxHeartbeats 4000000

theorem law10 (e : En) (f : Fr) (a b : List Ins) (hw : WideE e) (ha : a.length * 32 ≤ 140737488351232) (hb : b.length * 32 ≤ 140737488351232) : PCall Try.prog 10 [.agg (eEn e), .agg (eFr f), .slice .no (rws eIn a), .slice .no (rws eIn b)] (.bool true) := by
  refine F10.pcall' rfl fun T hT => ?_
  simp -implicitDefEqProofs only [go_sem, Nat.reduceEqDiff, Nat.reduceLT, Nat.reduceLeDiff, Nat.reduceAdd, Nat.reduceSub, Nat.reduceMul, Nat.reduceBEq, ↓reduceIte, reduceCtorEq, Int.reduceEq, Int.reduceLT, Int.reduceLE, Int.reduceNeg, Int.reduceAdd, Int.reduceSub, Int.reduceToNat, rws_len, vc_cond, c10, hT, fr_zero, zFr_len, zFr_take, zFr_drop, eEn_len, eIn_len, eFr_len, eEn_take, eIn_take, eFr_take, eFr_drop, List.append_nil, List.getElem?_drop, rws_len]
  intro b4 b5 n1 n2
  have rest : ¬ cutOff a b → ∀ T, envOk [(2, .slice .no (rws eIn a)), (3, .slice .no (rws eIn b)), (4, .ptr b4 0), (5, .ptr b5 0)] T → vcA Try.prog 126 c10_2 (bodyP Try.prog [.tmp 8] (.bool true)) T ((({} : St).set b4 (eEn e)).set b5 (eFr f)) := ?rest
  · by_cases la : 0 < a.length
    case neg =>
      have g1 : ((0 : Int) < a.length) = False := by rw [eq_iff_iff, iff_false]; omega
      have hn : ¬ cutOff a b := fun h => la (List.length_pos_iff.2 h.1)
      simp -implicitDefEqProofs only [go_sem, Nat.reduceEqDiff, Nat.reduceLT, Nat.reduceLeDiff, Nat.reduceAdd, Nat.reduceSub, Nat.reduceMul, Nat.reduceBEq, ↓reduceIte, reduceCtorEq, Int.reduceEq, Int.reduceLT, Int.reduceLE, Int.reduceNeg, Int.reduceAdd, Int.reduceSub, Int.reduceToNat, rws_len, vc_cond, hT, fr_zero, zFr_len, zFr_take, zFr_drop, eEn_len, eIn_len, eFr_len, eEn_take, eIn_take, eFr_take, eFr_drop, List.append_nil, List.getElem?_drop, rws_len, n1, n2, g1]
      refine rest hn _ ?_
      simp -implicitDefEqProofs only [go_sem, Nat.reduceEqDiff, Nat.reduceLT, Nat.reduceLeDiff, Nat.reduceAdd, Nat.reduceSub, Nat.reduceMul, Nat.reduceBEq, ↓reduceIte, reduceCtorEq, Int.reduceEq, Int.reduceLT, Int.reduceLE, Int.reduceNeg, Int.reduceAdd, Int.reduceSub, Int.reduceToNat, rws_len, vc_cond, hT]
    have g1 : ((0 : Int) < a.length) = True := by simp; omega
    by_cases lb : 0 < b.length
    case neg =>
      have g2 : ((0 : Int) < b.length) = False := by rw [eq_iff_iff, iff_false]; omega
      have hn : ¬ cutOff a b := fun h => lb (List.length_pos_iff.2 h.2.1)
      simp -implicitDefEqProofs only [go_sem, Nat.reduceEqDiff, Nat.reduceLT, Nat.reduceLeDiff, Nat.reduceAdd, Nat.reduceSub, Nat.reduceMul, Nat.reduceBEq, ↓reduceIte, reduceCtorEq, Int.reduceEq, Int.reduceLT, Int.reduceLE, Int.reduceNeg, Int.reduceAdd, Int.reduceSub, Int.reduceToNat, rws_len, vc_cond, hT, fr_zero, zFr_len, zFr_take, zFr_drop, eEn_len, eIn_len, eFr_len, eEn_take, eIn_take, eFr_take, eFr_drop, List.append_nil, List.getElem?_drop, rws_len, n1, n2, g1, g2]
      refine rest hn _ ?_
      simp -implicitDefEqProofs only [go_sem, Nat.reduceEqDiff, Nat.reduceLT, Nat.reduceLeDiff, Nat.reduceAdd, Nat.reduceSub, Nat.reduceMul, Nat.reduceBEq, ↓reduceIte, reduceCtorEq, Int.reduceEq, Int.reduceLT, Int.reduceLE, Int.reduceNeg, Int.reduceAdd, Int.reduceSub, Int.reduceToNat, rws_len, vc_cond, hT]
    have g2 : ((0 : Int) < b.length) = True := by simp; omega
    have hi : a.length - 1 < a.length := by omega
    have w0 : IntKind.wrap .i64 ((a.length : Int) - 1) = ((a.length - 1 : Nat) : Int) := by rw [wrap_i64 (by omega) (by omega)]; omega
    have hR : (rws eIn a)[a.length - 1]?.getD [] = eIn a[a.length - 1] := rws_at hi
    have hlast : a.getLast? = some a[a.length - 1] := by rw [List.getLast?_eq_getElem?, List.getElem?_eq_getElem hi]
    have hen := refEnds41 a[a.length - 1].op
    simp -implicitDefEqProofs only [go_sem, Nat.reduceEqDiff, Nat.reduceLT, Nat.reduceLeDiff, Nat.reduceAdd, Nat.reduceSub, Nat.reduceMul, Nat.reduceBEq, ↓reduceIte, reduceCtorEq, Int.reduceEq, Int.reduceLT, Int.reduceLE, Int.reduceNeg, Int.reduceAdd, Int.reduceSub, Int.reduceToNat, rws_len, vc_cond, hT, fr_zero, zFr_len, zFr_take, zFr_drop, eEn_len, eIn_len, eFr_len, eEn_take, eIn_take, eFr_take, eFr_drop, List.append_nil, List.getElem?_drop, rws_len, n1, n2, g1, g2, w0, hR, eIn_1, Nat.mul_one]
    refine ⟨by omega, callB_pure hen ?_⟩
    cases he : endsB a[a.length - 1].op.val
    · have hn : ¬ cutOff a b := fun h => by
        have h3 := h.2.2
        rw [hlast] at h3
        rw [show prevEnds (some a[a.length - 1]) = endsB a[a.length - 1].op.val from rfl, he] at h3
        cases h3
      simp -implicitDefEqProofs only [go_sem, Nat.reduceEqDiff, Nat.reduceLT, Nat.reduceLeDiff, Nat.reduceAdd, Nat.reduceSub, Nat.reduceMul, Nat.reduceBEq, ↓reduceIte, reduceCtorEq, Int.reduceEq, Int.reduceLT, Int.reduceLE, Int.reduceNeg, Int.reduceAdd, Int.reduceSub, Int.reduceToNat, rws_len, vc_cond, hT]
      refine rest hn _ ?_
      simp -implicitDefEqProofs only [go_sem, Nat.reduceEqDiff, Nat.reduceLT, Nat.reduceLeDiff, Nat.reduceAdd, Nat.reduceSub, Nat.reduceMul, Nat.reduceBEq, ↓reduceIte, reduceCtorEq, Int.reduceEq, Int.reduceLT, Int.reduceLE, Int.reduceNeg, Int.reduceAdd, Int.reduceSub, Int.reduceToNat, rws_len, vc_cond, hT]
    · simp -implicitDefEqProofs only [go_sem, Nat.reduceEqDiff, Nat.reduceLT, Nat.reduceLeDiff, Nat.reduceAdd, Nat.reduceSub, Nat.reduceMul, Nat.reduceBEq, ↓reduceIte, reduceCtorEq, Int.reduceEq, Int.reduceLT, Int.reduceLE, Int.reduceNeg, Int.reduceAdd, Int.reduceSub, Int.reduceToNat, rws_len, vc_cond, hT]
  intro hcut T hE
  clear hT
  simp only [envOk_nil, envOk_cons] at hE
  obtain ⟨t2, t3, t4, t5, _⟩ := hE
  obtain ⟨hp1, hp2⟩ := run_parts hw f a b hcut
  have hat1 := runF_at (e := e) (f := f) (l := a)
  have herr1 := runF_err (e := e) (f := f) (l := a)
  have hle := @runF_le e (runF e f a).1 b
  have lW := line42 e f (a ++ b) .no hw (by rw [List.length_append]; omega)
  have lA := line42 e f a .no hw (by omega)
  have rA := refLine45 e f a .no hw (by omega)
  have lB := fun g => line42 e g b .no hw (by omega)
  generalize runF e f (a ++ b) = W at *
  generalize runF e f a = A at *
  generalize hBB : runF e A.1 b = B at *
  have lB := lB A.1
  rw [hBB] at lB
  simp -implicitDefEqProofs only [go_sem, Nat.reduceEqDiff, Nat.reduceLT, Nat.reduceLeDiff, Nat.reduceAdd, Nat.reduceSub, Nat.reduceMul, Nat.reduceBEq, ↓reduceIte, reduceCtorEq, Int.reduceEq, Int.reduceLT, Int.reduceLE, Int.reduceNeg, Int.reduceAdd, Int.reduceSub, Int.reduceToNat, rws_len, vc_cond, c10_2, t2, t3, t4, t5, fr_zero, zFr_len, zFr_take, zFr_drop, eEn_len, eIn_len, eFr_len, eEn_take, eIn_take, eFr_take, eFr_drop, List.append_nil, List.getElem?_drop, rws_len, n1, n2]
  refine ⟨by rintro x rfl; simp [St.set_box, n1, n2], callB_pure (env30 e hw) ?_⟩
  simp -implicitDefEqProofs only [go_sem, Nat.reduceEqDiff, Nat.reduceLT, Nat.reduceLeDiff, Nat.reduceAdd, Nat.reduceSub, Nat.reduceMul, Nat.reduceBEq, ↓reduceIte, reduceCtorEq, Int.reduceEq, Int.reduceLT, Int.reduceLE, Int.reduceNeg, Int.reduceAdd, Int.reduceSub, Int.reduceToNat, rws_len, vc_cond, t2, t3, t4, t5, fr_zero, zFr_len, zFr_take, zFr_drop, eEn_len, eIn_len, eFr_len, eEn_take, eIn_take, eFr_take, eFr_drop, List.append_nil, List.getElem?_drop, rws_len, n1, n2, frz]
  refine callB_pure (concat43 a b .no .no ha hb) ?_
  simp -implicitDefEqProofs only [go_sem, Nat.reduceEqDiff, Nat.reduceLT, Nat.reduceLeDiff, Nat.reduceAdd, Nat.reduceSub, Nat.reduceMul, Nat.reduceBEq, ↓reduceIte, reduceCtorEq, Int.reduceEq, Int.reduceLT, Int.reduceLE, Int.reduceNeg, Int.reduceAdd, Int.reduceSub, Int.reduceToNat, rws_len, vc_cond, t2, t3, t4, t5, fr_zero, zFr_len, zFr_take, zFr_drop, eEn_len, eIn_len, eFr_len, eEn_take, eIn_take, eFr_take, eFr_drop, List.append_nil, List.getElem?_drop, rws_len, n1, n2]
  refine callB_pure lW ?_
  simp -implicitDefEqProofs only [go_sem, Nat.reduceEqDiff, Nat.reduceLT, Nat.reduceLeDiff, Nat.reduceAdd, Nat.reduceSub, Nat.reduceMul, Nat.reduceBEq, ↓reduceIte, reduceCtorEq, Int.reduceEq, Int.reduceLT, Int.reduceLE, Int.reduceNeg, Int.reduceAdd, Int.reduceSub, Int.reduceToNat, rws_len, vc_cond, t2, t3, t4, t5, fr_zero, zFr_len, zFr_take, zFr_drop, eEn_len, eIn_len, eFr_len, eEn_take, eIn_take, eFr_take, eFr_drop, List.append_nil, List.getElem?_drop, rws_len, n1, n2]
  intro b9 m1 m2 m3 m4
  simp -implicitDefEqProofs only [go_sem, Nat.reduceEqDiff, Nat.reduceLT, Nat.reduceLeDiff, Nat.reduceAdd, Nat.reduceSub, Nat.reduceMul, Nat.reduceBEq, ↓reduceIte, reduceCtorEq, Int.reduceEq, Int.reduceLT, Int.reduceLE, Int.reduceNeg, Int.reduceAdd, Int.reduceSub, Int.reduceToNat, rws_len, vc_cond, t2, t3, t4, t5, fr_zero, zFr_len, zFr_take, zFr_drop, eEn_len, eIn_len, eFr_len, eEn_take, eIn_take, eFr_take, eFr_drop, List.append_nil, List.getElem?_drop, rws_len, n1, n2, m1, m2, m3, m4, set_set]
  refine ⟨by rintro x rfl; simp [St.set_box, n1, n2, m1, m2, m3, m4], callB_pure (env30 e hw) ?_⟩
  simp -implicitDefEqProofs only [go_sem, Nat.reduceEqDiff, Nat.reduceLT, Nat.reduceLeDiff, Nat.reduceAdd, Nat.reduceSub, Nat.reduceMul, Nat.reduceBEq, ↓reduceIte, reduceCtorEq, Int.reduceEq, Int.reduceLT, Int.reduceLE, Int.reduceNeg, Int.reduceAdd, Int.reduceSub, Int.reduceToNat, rws_len, vc_cond, t2, t3, t4, t5, fr_zero, zFr_len, zFr_take, zFr_drop, eEn_len, eIn_len, eFr_len, eEn_take, eIn_take, eFr_take, eFr_drop, List.append_nil, List.getElem?_drop, rws_len, n1, n2, m1, m2, m3, m4]
  refine callB_pure (clone44 a .no (by simp [nilOk]) (by omega)) ?_
  simp -implicitDefEqProofs only [go_sem, Nat.reduceEqDiff, Nat.reduceLT, Nat.reduceLeDiff, Nat.reduceAdd, Nat.reduceSub, Nat.reduceMul, Nat.reduceBEq, ↓reduceIte, reduceCtorEq, Int.reduceEq, Int.reduceLT, Int.reduceLE, Int.reduceNeg, Int.reduceAdd, Int.reduceSub, Int.reduceToNat, rws_len, vc_cond, t2, t3, t4, t5, fr_zero, zFr_len, zFr_take, zFr_drop, eEn_len, eIn_len, eFr_len, eEn_take, eIn_take, eFr_take, eFr_drop, List.append_nil, List.getElem?_drop, rws_len, n1, n2, m1, m2, m3, m4]
  refine callB_pure lA ?_
  simp -implicitDefEqProofs only [go_sem, Nat.reduceEqDiff, Nat.reduceLT, Nat.reduceLeDiff, Nat.reduceAdd, Nat.reduceSub, Nat.reduceMul, Nat.reduceBEq, ↓reduceIte, reduceCtorEq, Int.reduceEq, Int.reduceLT, Int.reduceLE, Int.reduceNeg, Int.reduceAdd, Int.reduceSub, Int.reduceToNat, rws_len, vc_cond, t2, t3, t4, t5, fr_zero, zFr_len, zFr_take, zFr_drop, eEn_len, eIn_len, eFr_len, eEn_take, eIn_take, eFr_take, eFr_drop, List.append_nil, List.getElem?_drop, rws_len, n1, n2, m1, m2, m3, m4]
  intro b12 k1 k2 k3 k4 k5 k6
  simp -implicitDefEqProofs only [go_sem, Nat.reduceEqDiff, Nat.reduceLT, Nat.reduceLeDiff, Nat.reduceAdd, Nat.reduceSub, Nat.reduceMul, Nat.reduceBEq, ↓reduceIte, reduceCtorEq, Int.reduceEq, Int.reduceLT, Int.reduceLE, Int.reduceNeg, Int.reduceAdd, Int.reduceSub, Int.reduceToNat, rws_len, vc_cond, t2, t3, t4, t5, fr_zero, zFr_len, zFr_take, zFr_drop, eEn_len, eIn_len, eFr_len, eEn_take, eIn_take, eFr_take, eFr_drop, List.append_nil, List.getElem?_drop, rws_len, n1, n2, m1, m2, m3, m4, k1, k2, k3, k4, k5, k6, set_set]
  refine callB_pure rA ?_
  simp -implicitDefEqProofs only [go_sem, Nat.reduceEqDiff, Nat.reduceLT, Nat.reduceLeDiff, Nat.reduceAdd, Nat.reduceSub, Nat.reduceMul, Nat.reduceBEq, ↓reduceIte, reduceCtorEq, Int.reduceEq, Int.reduceLT, Int.reduceLE, Int.reduceNeg, Int.reduceAdd, Int.reduceSub, Int.reduceToNat, rws_len, vc_cond, t2, t3, t4, t5, fr_zero, zFr_len, zFr_take, zFr_drop, eEn_len, eIn_len, eFr_len, eEn_take, eIn_take, eFr_take, eFr_drop, List.append_nil, List.getElem?_drop, rws_len, n1, n2, m1, m2, m3, m4, k1, k2, k3, k4, k5, k6]
  intro b15 q1 q2 q3 q4 q5 q6 q7 q8
  by_cases h0 : A.2.2 = 0
  case neg =>
    have h0' : ((A.2.2 : Int) = 0) = False := by simp; omega
    rw [hp1 h0]
    simp -implicitDefEqProofs only [go_sem, Nat.reduceEqDiff, Nat.reduceLT, Nat.reduceLeDiff, Nat.reduceAdd, Nat.reduceSub, Nat.reduceMul, Nat.reduceBEq, ↓reduceIte, reduceCtorEq, Int.reduceEq, Int.reduceLT, Int.reduceLE, Int.reduceNeg, Int.reduceAdd, Int.reduceSub, Int.reduceToNat, rws_len, vc_cond, t2, t3, t4, t5, fr_zero, zFr_len, zFr_take, zFr_drop, eEn_len, eIn_len, eFr_len, eEn_take, eIn_take, eFr_take, eFr_drop, List.append_nil, List.getElem?_drop, rws_len, n1, n2, m1, m2, m3, m4, k1, k2, k3, k4, k5, k6, q1, q2, q3, q4, q5, q6, q7, q8, set_set, h0', eq_fr]
  have h0' : ((A.2.2 : Int) = 0) = True := by simp; omega
  simp -implicitDefEqProofs only [go_sem, Nat.reduceEqDiff, Nat.reduceLT, Nat.reduceLeDiff, Nat.reduceAdd, Nat.reduceSub, Nat.reduceMul, Nat.reduceBEq, ↓reduceIte, reduceCtorEq, Int.reduceEq, Int.reduceLT, Int.reduceLE, Int.reduceNeg, Int.reduceAdd, Int.reduceSub, Int.reduceToNat, rws_len, vc_cond, t2, t3, t4, t5, fr_zero, zFr_len, zFr_take, zFr_drop, eEn_len, eIn_len, eFr_len, eEn_take, eIn_take, eFr_take, eFr_drop, List.append_nil, List.getElem?_drop, rws_len, n1, n2, m1, m2, m3, m4, k1, k2, k3, k4, k5, k6, q1, q2, q3, q4, q5, q6, q7, q8, set_set, h0']
  refine ⟨by rintro x rfl; simp [St.set_box, n1, n2, m1, m2, m3, m4, k1, k2, k3, k4, k5, k6, q1, q2, q3, q4, q5, q6, q7, q8], callB_pure (env30 e hw) ?_⟩
  simp -implicitDefEqProofs only [go_sem, Nat.reduceEqDiff, Nat.reduceLT, Nat.reduceLeDiff, Nat.reduceAdd, Nat.reduceSub, Nat.reduceMul, Nat.reduceBEq, ↓reduceIte, reduceCtorEq, Int.reduceEq, Int.reduceLT, Int.reduceLE, Int.reduceNeg, Int.reduceAdd, Int.reduceSub, Int.reduceToNat, rws_len, vc_cond, t2, t3, t4, t5, fr_zero, zFr_len, zFr_take, zFr_drop, eEn_len, eIn_len, eFr_len, eEn_take, eIn_take, eFr_take, eFr_drop, List.append_nil, List.getElem?_drop, rws_len, n1, n2, m1, m2, m3, m4, k1, k2, k3, k4, k5, k6, q1, q2, q3, q4, q5, q6, q7, q8]
  refine callB_pure (clone44 b .no (by simp [nilOk]) (by omega)) ?_
  simp -implicitDefEqProofs only [go_sem, Nat.reduceEqDiff, Nat.reduceLT, Nat.reduceLeDiff, Nat.reduceAdd, Nat.reduceSub, Nat.reduceMul, Nat.reduceBEq, ↓reduceIte, reduceCtorEq, Int.reduceEq, Int.reduceLT, Int.reduceLE, Int.reduceNeg, Int.reduceAdd, Int.reduceSub, Int.reduceToNat, rws_len, vc_cond, t2, t3, t4, t5, fr_zero, zFr_len, zFr_take, zFr_drop, eEn_len, eIn_len, eFr_len, eEn_take, eIn_take, eFr_take, eFr_drop, List.append_nil, List.getElem?_drop, rws_len, n1, n2, m1, m2, m3, m4, k1, k2, k3, k4, k5, k6, q1, q2, q3, q4, q5, q6, q7, q8]
  refine callB_pure lB ?_
  simp -implicitDefEqProofs only [go_sem, Nat.reduceEqDiff, Nat.reduceLT, Nat.reduceLeDiff, Nat.reduceAdd, Nat.reduceSub, Nat.reduceMul, Nat.reduceBEq, ↓reduceIte, reduceCtorEq, Int.reduceEq, Int.reduceLT, Int.reduceLE, Int.reduceNeg, Int.reduceAdd, Int.reduceSub, Int.reduceToNat, rws_len, vc_cond, t2, t3, t4, t5, fr_zero, zFr_len, zFr_take, zFr_drop, eEn_len, eIn_len, eFr_len, eEn_take, eIn_take, eFr_take, eFr_drop, List.append_nil, List.getElem?_drop, rws_len, n1, n2, m1, m2, m3, m4, k1, k2, k3, k4, k5, k6, q1, q2, q3, q4, q5, q6, q7, q8]
  intro b18 u1 u2 u3 u4 u5 u6 u7 u8 u9 u10
  have hw2 := hp2 h0
  have hwa : IntKind.wrap .i64 ((a.length : Int) + B.2.1) = (a.length : Int) + B.2.1 := wrap_i64 (by omega) (by omega)
  by_cases h1 : B.2.2 = 0
  case neg =>
    have h1' : ((B.2.2 : Int) = 0) = False := by simp; omega
    rw [if_neg h1] at hw2
    rw [hw2]
    simp -implicitDefEqProofs only [go_sem, Nat.reduceEqDiff, Nat.reduceLT, Nat.reduceLeDiff, Nat.reduceAdd, Nat.reduceSub, Nat.reduceMul, Nat.reduceBEq, ↓reduceIte, reduceCtorEq, Int.reduceEq, Int.reduceLT, Int.reduceLE, Int.reduceNeg, Int.reduceAdd, Int.reduceSub, Int.reduceToNat, rws_len, vc_cond, t2, t3, t4, t5, fr_zero, zFr_len, zFr_take, zFr_drop, eEn_len, eIn_len, eFr_len, eEn_take, eIn_take, eFr_take, eFr_drop, List.append_nil, List.getElem?_drop, rws_len, n1, n2, m1, m2, m3, m4, k1, k2, k3, k4, k5, k6, q1, q2, q3, q4, q5, q6, q7, q8, u1, u2, u3, u4, u5, u6, u7, u8, u9, u10, set_set, h1', hwa, Int.natCast_add, eq_fr]
  have h1' : ((B.2.2 : Int) = 0) = True := by simp; omega
  rw [if_pos h1] at hw2
  rw [hw2]
  simp -implicitDefEqProofs only [go_sem, Nat.reduceEqDiff, Nat.reduceLT, Nat.reduceLeDiff, Nat.reduceAdd, Nat.reduceSub, Nat.reduceMul, Nat.reduceBEq, ↓reduceIte, reduceCtorEq, Int.reduceEq, Int.reduceLT, Int.reduceLE, Int.reduceNeg, Int.reduceAdd, Int.reduceSub, Int.reduceToNat, rws_len, vc_cond, t2, t3, t4, t5, fr_zero, zFr_len, zFr_take, zFr_drop, eEn_len, eIn_len, eFr_len, eEn_take, eIn_take, eFr_take, eFr_drop, List.append_nil, List.getElem?_drop, rws_len, n1, n2, m1, m2, m3, m4, k1, k2, k3, k4, k5, k6, q1, q2, q3, q4, q5, q6, q7, q8, u1, u2, u3, u4, u5, u6, u7, u8, u9, u10, set_set, h1', h1, Int.ofNat_zero, eq_fr]
end Go.AL
