import Derived.Test.YtobmoajkfbigkaaGreatKk
import Derived.Test.YtobmoajkfbigkaaGreatKh
import Derived.Test.YtobmoajkfbigkaaGreatKj
import Derived.Test.YtobmoajkfbigkaaGreatKd
import Derived.Test.YtobmoajkfbigkaaGreatKf
import Derived.Test.YtobmoajkfbigkaaGreatKi
import Derived.Test.YtobmoajkfbigkaaGreatKg
import Derived.Test.YtobmoajkfbigkaaGreatRows
set_option linter.unusedSimpArgs false
set_option linter.unusedVariables false
set_option maxRecDepth 100000
set_option maxHeartbeats 4000000
set_option linter.defProp false
namespace Go.AL
open Go.Proofs
theorem app_grx {P : Program} {N : Nat} {T : Env} {σ : St} {K : Env → St → Prop} {d : Option Nat} {t e : TypeId} {s by' : Nat} {z : List D} (h1 : sliP P t = some e) (h2 : szP P e = some s) (h3 : zb4 P e = some by') (h4 : zc1 P e = some z) (hz : (z.length == s && decide (0 < s) && decide (0 < by')) = true)
    {o : Option Nat} {es ys : List (List D)} {ow : Own} {n m : Nat} (hn : es.length = n) (hm : ys.length = m) (ho : grN o σ) (ho0 : o = none → n = 0) (hy : ∀ r ∈ ys, r.length = s) (hy0 : ys ≠ []) (hl : (n + m) * by' ≤ 140737488355328)
    (hk : ∀ b', ¬ σ.has b' → putK N d (grD s (some b') (es ++ ys)) K T (grS s (n + m) (some b') σ)) :
    appendA P N d t t (grD s o es) (.slice ow ys) K T (grS s n o σ) := by
  subst hn; subst hm
  simp only [Bool.and_eq_true, beq_iff_eq, decide_eq_true_eq] at hz
  cases o with
  | none =>
    obtain rfl : es = [] := List.eq_nil_of_length_eq_zero (ho0 rfl)
    show appendA P N d t t (.slice .nil []) (.slice ow ys) K T σ
    simp only [app_nil, h1, h2, h3, h4, Option.map_some, true_and]
    refine ⟨hz.1.1, hz.1.2, hz.2, hy, hl, fun h => absurd h hy0, fun _ b' hb' => ?_⟩
    have := hk b' hb'
    simpa [grD, grS] using this
  | some b =>
    have hb := ho b rfl
    have hd : (σ.setBuf b s es.length).dropBuf b = σ := by
      ext x
      · rfl
      · simp only [St.dropBuf, St.setBuf]
        by_cases h : x = b
        · subst h
          have : σ.buf x = none := by
            cases hx : σ.buf x with
            | none => rfl
            | some y => exact absurd (.inr (by simp [hx])) hb
          simp [this]
        · simp [h]
    show appendA P N d t t (.slice (.buf b s) es) (.slice ow ys) K T (σ.setBuf b s es.length)
    simp only [app_buf, h1, h2, h3, h4, Option.map_some, true_and]
    refine ⟨hz.1.1, hz.1.2, hz.2, hy, hl, by simp [St.setBuf], fun b' hb' => ?_⟩
    rw [hd] at hb' ⊢
    exact hk b' hb'
theorem not_buf {σ : St} {b : Nat} (h : ¬ σ.has b) : σ.buf b = none := by
  cases hx : σ.buf b with
  | none => rfl
  | some y => exact absurd (.inr (by simp [hx])) h
section
variable {e : En} {b : List Ty} {l : List Ey} {s : PS} {o : Option Nat} {q nx : Nat} {g : FuncId} {ca : List D} {FS : List Nat → St → Prop} {asked : List Nat} {sf : St}
theorem apply144 (e : En) (f : Fr) (i : Ins) (hw : WideE e) : zf9 Tryz.prog 144 [.agg (eEn e), .agg (eFr f), .agg (eIn i)] (.tup [.agg (eFr (applyR e f i).1), .int .i64 (applyR e f i).2]) := by
  rw [← apply_eq e f i hw]; exact apply39 e f i hw
def doesR (e : En) (b : List Ty) (l : List Ey) (s : PS) (nx : Nat) (fd : D) (q : Nat) (FS : List Nat → St → Prop) (asked : List Nat) (d : D) (s' : St) : Prop :=
  ∃ s2, fetD e b l s = .ok s2 ∧ d = .int .i64 s2.p ∧ ∃ o' sf', FS (asked ++ List.range' s.p (sizeOp (decF b s.p).1.op.val)) sf' ∧ offL sf' (L0 e b l nx fd s2 o' q) ∧ o' ≠ some q ∧ (o' = none → s2.fet = []) ∧ s' = putL sf' (L0 e b l nx fd s2 o' q)
def doesP (e : En) (b : List Ty) (l : List Ey) (s : PS) (FS : List Nat → St → Prop) (asked : List Nat) (d : D) (s' : St) : Prop :=
  ∃ a w, fetD e b l s = .no a w ∧ d = refD a w ∧ ∃ j, s.p + j ≤ b.length ∧ FS (asked ++ List.range' s.p j) s'
def bYgdD0 := aI @zb1 (aI @za8 (aI @zb0 (aI @za6 (aI @za5 (aI @za7 (aI @zb2 (aI @za9 (aI @zb6 (aI @zb3 (aI @zc3 (aI @anD (aI @za2 (aI @za3 (aI @ey_0 (aI @ey_1 (aI @zf8 (aI @in_1 (aI @in_2 @ze3))))))))))))))))))
def bYgdD1 := aI @grS_set (aI @e_len (aI @e_0 (aI @e_3 (aI @e_4 (aI @e_5 (aI @e_7 (aI @e_8 (aI @e_35 (aI @e_en (aI @e_fr (aI @e_snx (aI @e_scmp (aI @e_sfr (aI @e_slive (aI @e_sfet (aI @zb8 (aI @gdD (aI @ldD (aI @zb1 (aI @za8 (aI @zb0 (aI @za6 (aI @za5 (aI @za7 (aI @zb2 (aI @za9 (aI @zb6 (aI @zb3 (aI @zc3 (aI @anD (aI @za2 (aI @za3 (aI @ey_0 (aI @ey_1 (aI @zf8 (aI @in_1 (aI @in_2 @ze3)))))))))))))))))))))))))))))))))))))
def bYgdD2 := aI @e_len (aI @e_0 (aI @e_3 (aI @e_4 (aI @e_5 (aI @e_7 (aI @e_8 (aI @e_35 (aI @e_en (aI @e_fr (aI @e_snx (aI @e_scmp (aI @e_sfr (aI @e_slive (aI @e_sfet (aI @zb8 (aI @gdD (aI @ldD (aI @zb1 (aI @za8 (aI @zb0 (aI @za6 (aI @za5 (aI @za7 (aI @zb2 (aI @za9 (aI @zb6 (aI @zb3 (aI @zc3 (aI @anD (aI @za2 (aI @za3 (aI @ey_0 (aI @ey_1 (aI @zf8 (aI @in_1 (aI @in_2 @ze3))))))))))))))))))))))))))))))))))))
def bYgdD3 := aI @e_len (aI @e_0 (aI @e_3 (aI @e_4 (aI @e_5 (aI @e_7 (aI @e_8 (aI @e_35 (aI @e_en (aI @e_fr (aI @e_snx (aI @e_scmp (aI @e_sfr (aI @e_slive (aI @e_sfet (aI @zb8 (aI @gdD (aI @ldD (aI @zb1 (aI @za8 (aI @zb0 (aI @za6 (aI @za5 (aI @za7 (aI @zb2 (aI @za9 (aI @zb6 (aI @zb3 (aI @zc3 (aI @anD (aI @za2 (aI @za3 (aI @ey_0 (aI @ey_1 (aI @zf8 (aI @in_1 (aI @in_2 (aI @ze3 @Int.ofNat_zero)))))))))))))))))))))))))))))))))))))
theorem does99 (hw : WideE e) (hl : Ents l) (hF : FetchOk g ca b FS) (hb : b.length ≤ 4096) (hp : s.p < b.length) (hc : s.cmp ≤ 100000) (hs : FS asked sf) (ha : Asc s.p asked) (hoff : offL sf (L0 e b l nx (.func (.func g) [] ca) s o q)) (hoq : o ≠ some q) (ho : o = none → s.fet = []) (hfe : s.fet.length ≤ 4096) (hlv : s.live = true)
    (hnx : nx = cnt l ((s.p : Int) + 1)) :
    XCall Tryz.prog 99 [.ptr q 0, .int .i64 s.p] (putL sf (L0 e b l nx (.func (.func g) [] ca) s o q)) (doesR e b l s nx (.func (.func g) [] ca) q FS asked) (doesP e b l s FS asked) := by
  obtain ⟨fd, hfd⟩ : ∃ fd, D.func (.func g) [] ca = fd := ⟨_, rfl⟩
  have hin := instr143 (e := e) (l := l) (s := s) (nx := nx) hF hb hp hs ha hoff hoq
  rw [hfd] at hin hoff ⊢
  refine F99.xcall rfl fun T hT => ?_
  simp -implicitDefEqProofs only [go_sem, c99, hT, forall_eq, bYgdD0]
  refine callB_allX hin (fun d s' hR => ?_) fun d s' hR => ?_
  rotate_left
  · obtain ⟨hd, rfl, j, hj, hfs⟩ := hR
    have hno : fetD e b l s = .no s.p (decF b s.p).2 := by unfold fetD; rw [if_pos hd]
    simp -implicitDefEqProofs only [go_sem]
    exact ⟨_, s', DLe.refl _, St.le.refl _, _, _, hno, rfl, j, hj, hfs⟩
  obtain ⟨hd, rfl, sf', hfs, hof, rfl⟩ := hR
  have hfD : fetD e b l s = match strayE l s.p (s.p + sizeOp (decF b s.p).1.op.val) with
  | some x => .no x.pos 93
  | none =>
    if (applyR e s.fr (decF b s.p).1).2 ≠ 0 then .no s.p (applyR e s.fr (decF b s.p).1).2
    else if jumpsB (decF b s.p).1.op.val = true then
      match jumpD e.cs l b.length s.p (decF b s.p).1.a (applyR e s.fr (decF b s.p).1).1 with
      | some w => .no s.p w
      | none => endD b.length s.p (s.p + sizeOp (decF b s.p).1.op.val) (decF b s.p).1.op.val (applyR e s.fr (decF b s.p).1).1 (s.cmp + 1) (s.fet ++ [s.p])
    else endD b.length s.p (s.p + sizeOp (decF b s.p).1.op.val) (decF b s.p).1.op.val (applyR e s.fr (decF b s.p).1).1 s.cmp (s.fet ++ [s.p]) := by unfold fetD; rw [if_neg (by simp [hd])]; rfl
  obtain ⟨d1, d2, d3, d4⟩ := decF_ok hd
  have hpos : (decF b s.p).1.pos = s.p := by rw [d2]; rfl
  rw [show doesR e b l s nx fd q FS asked = fun d s' => ∃ s2, fetD e b l s = .ok s2 ∧ d = .int .i64 s2.p ∧ ∃ o' sf', FS (asked ++ List.range' s.p (sizeOp (decF b s.p).1.op.val)) sf' ∧ offL sf' (L0 e b l nx fd s2 o' q) ∧ o' ≠ some q ∧ (o' = none → s2.fet = []) ∧ s' = putL sf' (L0 e b l nx fd s2 o' q) from rfl]
  have hle0 : sizeOp (decF b s.p).1.op.val ≤ b.length - s.p := by omega
  clear d2
  generalize (decF b s.p).1 = I at *
  simp -implicitDefEqProofs only [go_sem, hT, forall_eq, bYgdD0]
  intro b5 hb5
  have hsq : ¬ sf'.has q := hof.1
  have hso : grN o sf' := hof.2.1
  have hLe : putL sf' (L0 e b l nx fd s o q) = grS 1 s.fet.length o (sf'.set q (eP e b.length l nx fd s o)) := rfl
  rw [hLe] at hb5 ⊢
  have n5 : b5 ≠ q := fun h => hb5 (by rw [h, grS_has, set_has]; exact .inr (.inl rfl))
  have hs5 : ¬ sf'.has b5 := fun h => hb5 (by rw [grS_has, set_has]; exact .inr (.inr h))
  have ho5 : o ≠ some b5 := fun h => hb5 (by rw [grS_has]; exact .inl h)
  have hq0 : ((sf'.set q (eP e b.length l nx fd s o)).set b5 (eIn I)).box q = some (eP e b.length l nx fd s o) := by rw [St.set_box, if_neg (Ne.symm n5), St.set_box, if_pos rfl]
  simp -implicitDefEqProofs only [go_sem, hT, hq0, forall_eq, n5, Ne.symm n5, bYgdD1]
  have hgo : grN o ((sf'.set q (eP e b.length l nx fd s o)).set b5 (eIn I)) := fun x hx hh => by
    rw [set_has, set_has] at hh
    rcases hh with h | h | h
    · exact ho5 (h ▸ hx)
    · exact hoq (h ▸ hx)
    · exact hso x hx h
  refine app_grx Tryz.sli29 Tryz.sz3 Tryz.by3 Tryz.zero3 rfl (n := s.fet.length) (m := 1) (by simp [rws]) rfl hgo (fun h => by rw [ho h]; rfl) (by simp) (by simp) (by omega) fun b' hb' => ?_
  have hrow : rws eN s.fet ++ [[frz (D.int .i64 s.p)]] = rws eN (s.fet ++ [s.p]) := by simp [rws, eN, frz]
  have hb'q : b' ≠ q := fun h => hb' (by rw [h, set_has, set_has]; exact .inr (.inl rfl))
  have hb's : ¬ sf'.has b' := fun h => hb' (by rw [set_has, set_has]; exact .inr (.inr h))
  simp -implicitDefEqProofs only [go_sem, hT, hq0, forall_eq, n5, Ne.symm n5, hrow, bYgdD1]
  have wb : IntKind.wrap .i64 ((s.p : Int) + (sizeOp I.op.val : Int)) = ((s.p + sizeOp I.op.val : Nat) : Int) := wrapN (by omega) (by omega)
  obtain ⟨q1, hq1⟩ : ∃ q1, s.p + sizeOp I.op.val = q1 := ⟨_, rfl⟩
  rw [hq1] at wb hfD
  refine za4 (size125 I.op) ?_
  obtain ⟨S1, hS1⟩ : ∃ S1, grS 1 (s.fet.length + 1) (some b') (((sf'.set q (eP e b.length l nx fd s o)).set b5 (eIn I)).set q (eP e b.length l nx fd { s with fet := s.fet ++ [s.p] } (some b'))) = S1 := ⟨_, rfl⟩
  have kq : S1.box q = some (eP e b.length l nx fd { s with fet := s.fet ++ [s.p] } (some b')) := by rw [← hS1, grS_boxa, St.set_box, if_pos rfl]
  have k5 : S1.box b5 = some (eIn I) := by rw [← hS1, grS_boxa, St.set_box, if_neg n5, St.set_box, if_pos rfl]
  have kbf : S1.buf q = none := by
    rw [← hS1]
    show (if q = b' then _ else sf'.buf q) = none
    rw [if_neg (Ne.symm hb'q)]; exact not_buf hsq
  have hfin : ∀ (s2 : PS) (S : St), s2.fet = s.fet ++ [s.p] → St.le (S1.set q (eP e b.length l nx fd s2 (some b'))) S → St.le (putL sf' (L0 e b l nx fd s2 (some b') q)) S := fun s2 S h2 h => by
    refine St.le.trans ?_ h
    rw [← hS1, grS_set, za2]
    show St.le (grS 1 s2.fet.length (some b') (sf'.set q (eP e b.length l nx fd s2 (some b')))) _
    rw [set_comm (Ne.symm n5), za2, h2, List.length_append]
    exact le_grS (le_set (le_add hs5))
  have hoffin : ∀ s2 : PS, offL sf' (L0 e b l nx fd s2 (some b') q) := fun s2 => ⟨hsq, fun x hx => by cases hx; exact hb's, trivial⟩
  have hsfle : St.le sf' S1 := by
    rw [← hS1]
    exact le_putL (l := [.bx q _, .bx b5 _, .bx q _, .gr 1 _ (some b')]) (St.le.refl sf') ⟨hsq, hs5, hsq, fun x hx => (by cases hx; exact hb's), trivial⟩
  rw [hS1]
  have hlen := hl.len
  have hcl := cnt_le l ((s.p : Int) + 1)
  have hstr := strayE_cnt hl.rise s.p q1
  rw [← hnx] at hstr hcl
  by_cases h1 : nx < l.length
  case neg =>
    rw [List.getElem?_eq_none (by omega)] at hstr
    have p1 : ((nx : Int) < l.length) = False := eq_false (by omega)
    simp -implicitDefEqProofs only [go_sem, hT, kq, k5, forall_eq, n5, Ne.symm n5, wb, p1, bYgdD2]
    simp only [Option.bind_none] at hstr
    rw [hstr] at hfD
    refine za4 (apply144 e s.fr I hw) ?_
    obtain ⟨R, hR⟩ : ∃ R, applyR e s.fr I = R := ⟨_, rfl⟩
    obtain ⟨f', err⟩ := R
    rw [hR] at hfD ⊢
    simp -implicitDefEqProofs only [go_sem, hT, kq, k5, forall_eq, n5, Ne.symm n5, bYgdD2]
    intro b7 hb7
    have m7 : b7 ≠ q := fun h => hb7 (by rw [h]; exact .inl (by simp [kq]))
    have m5 : b7 ≠ b5 := fun h => hb7 (by rw [h]; exact .inl (by simp [k5]))
    have hsf7 : St.le sf' (S1.set b7 (eFr f')) := hsfle.trans (le_add hb7)
    by_cases h3 : err = 0
    case neg =>
      simp only [h3, ne_eq, not_false_eq_true, if_true] at hfD
      refine callB_nilX (must95_no s.p err h3) (fun d s' h => h.elim) fun d s' h => ⟨h.2, ?_⟩
      rw [h.1]
      simp -implicitDefEqProofs only [go_sem]
      exact ⟨_, sf', DLe.refl _, hsf7, _, _, hfD, rfl, _, by omega, hfs⟩
    subst h3
    simp only [ne_eq, not_true_eq_false, if_false] at hfD
    simp -implicitDefEqProofs only [go_sem, hT, kq, k5, forall_eq, n5, Ne.symm n5, m7, Ne.symm m7, m5, Ne.symm m5, bYgdD3]
    refine za4 (must95_ok s.p) ?_
    simp -implicitDefEqProofs only [go_sem, hT, kq, k5, forall_eq, n5, Ne.symm n5, m7, Ne.symm m7, m5, Ne.symm m5, bYgdD2]
    refine za4 (jumps83 I.op) ?_
    obtain ⟨S2, hS2⟩ : ∃ S2, (S1.set b7 (eFr f')).set q (eP e b.length l nx fd { s with fr := f', fet := s.fet ++ [s.p] } (some b')) = S2 := ⟨_, rfl⟩
    have jq : S2.box q = some (eP e b.length l nx fd { s with fr := f', fet := s.fet ++ [s.p] } (some b')) := by rw [← hS2, St.set_box, if_pos rfl]
    have j5 : S2.box b5 = some (eIn I) := by rw [← hS2, St.set_box, if_neg n5, St.set_box, if_neg (Ne.symm m5), k5]
    have jbf : S2.buf q = none := by rw [← hS2]; exact kbf
    have hfin2 : ∀ (s2 : PS), s2.fet = s.fet ++ [s.p] → St.le (putL sf' (L0 e b l nx fd s2 (some b') q)) (S2.set q (eP e b.length l nx fd s2 (some b'))) := fun s2 h2 => hfin s2 _ h2 (by
      rw [← hS2, za2]; exact le_set (le_add hb7))
    have hsf0 : St.le sf' S2 := by rw [← hS2]; exact le_off hsf7 hsq
    have hsf2 : ∀ c, St.le sf' (S2.set q c) := fun c => le_off hsf0 hsq
    rw [hS2]
    cases hj : jumpsB I.op.val with
    | false =>
      simp only [hj, Bool.false_eq_true, if_false] at hfD
      simp -implicitDefEqProofs only [go_sem, hT, jq, j5, forall_eq, n5, Ne.symm n5, m7, Ne.symm m7, m5, Ne.symm m5, hj, bYgdD2]
      refine za4 (ends88 I.op) ?_
      cases he : endsB I.op.val with
      | true =>
        simp only [endD, he, if_true] at hfD
        simp -implicitDefEqProofs only [go_sem, hT, jq, j5, forall_eq, n5, Ne.symm n5, m7, Ne.symm m7, m5, Ne.symm m5, he, bYgdD2]
        exact ⟨_, _, DLe.refl _, hfin2 ⟨q1, f', false, s.cmp, s.fet ++ [s.p]⟩ rfl, _, hfD, rfl, some b', sf', hfs, hoffin _, fun h => hb'q (Option.some.inj h), (fun h => nomatch h), rfl⟩
      | false =>
        by_cases h6 : b.length ≤ q1
        · have g6 : ((b.length : Int) ≤ q1) = True := eq_true (by omega)
          simp only [endD, he, Bool.false_eq_true, if_false, h6, if_true] at hfD
          simp -implicitDefEqProofs only [go_sem, hT, jq, j5, forall_eq, n5, Ne.symm n5, m7, Ne.symm m7, m5, Ne.symm m5, he, g6, bYgdD2]
          refine callB_pan (refuse93 s.p 51) ?_
          simp -implicitDefEqProofs only [go_sem]
          exact ⟨_, sf', DLe.refl _, hsf2 _, _, _, hfD, rfl, _, by omega, hfs⟩
        · have g6 : ((b.length : Int) ≤ q1) = False := eq_false (by omega)
          simp only [endD, he, Bool.false_eq_true, if_false, h6] at hfD
          simp -implicitDefEqProofs only [go_sem, hT, jq, j5, forall_eq, n5, Ne.symm n5, m7, Ne.symm m7, m5, Ne.symm m5, he, g6, bYgdD2]
          exact ⟨_, _, DLe.refl _, hfin2 ⟨q1, f', true, s.cmp, s.fet ++ [s.p]⟩ rfl, _, hfD, rfl, some b', sf', hfs, hoffin _, fun h => hb'q (Option.some.inj h), (fun h => nomatch h), rfl⟩
    | true =>
      simp only [hj, if_true] at hfD
      simp -implicitDefEqProofs only [go_sem, hT, jq, j5, forall_eq, n5, Ne.symm n5, m7, Ne.symm m7, m5, Ne.symm m5, hj, bYgdD2]
      refine callB_boxX (b := q) jq jbf (jump145 e b.length l nx fd _ (some b') q I hw hl hc) (fun d s' hR => ?_) fun d s' hR => ?_
      rotate_left
      · obtain ⟨w, hj2, rfl⟩ := hR
        simp -implicitDefEqProofs only [go_sem]
        rw [show jumpD e.cs l b.length s.p I.a f' = some w from hj2] at hfD
        rw [hpos]
        exact ⟨_, sf', DLe.refl _, del_le hsf0 hsq, _, _, hfD, rfl, _, by omega, hfs⟩
      obtain ⟨hj2, rfl, rfl⟩ := hR
      refine ⟨_, rfl, ?_⟩
      have jq2 : (S2.set q (eP e b.length l nx fd { s with fr := f', fet := s.fet ++ [s.p], cmp := s.cmp + 1 } (some b'))).box q = some (eP e b.length l nx fd { s with fr := f', fet := s.fet ++ [s.p], cmp := s.cmp + 1 } (some b')) := by rw [St.set_box, if_pos rfl]
      have j52 : (S2.set q (eP e b.length l nx fd { s with fr := f', fet := s.fet ++ [s.p], cmp := s.cmp + 1 } (some b'))).box b5 = some (eIn I) := by rw [St.set_box, if_neg n5, j5]
      rw [show jumpD e.cs l b.length s.p I.a f' = none from hj2] at hfD
      simp only at hfD
      simp -implicitDefEqProofs only [go_sem, hT, jq2, j52, forall_eq, n5, Ne.symm n5, m7, Ne.symm m7, m5, Ne.symm m5, bYgdD2]
      refine za4 (ends88 I.op) ?_
      cases he : endsB I.op.val with
      | true =>
        simp only [endD, he, if_true] at hfD
        simp -implicitDefEqProofs only [go_sem, hT, jq2, j52, forall_eq, n5, Ne.symm n5, m7, Ne.symm m7, m5, Ne.symm m5, he, bYgdD2]
        exact ⟨_, _, DLe.refl _, hfin2 ⟨q1, f', false, s.cmp + 1, s.fet ++ [s.p]⟩ rfl, _, hfD, rfl, some b', sf', hfs, hoffin _, fun h => hb'q (Option.some.inj h), (fun h => nomatch h), rfl⟩
      | false =>
        by_cases h6 : b.length ≤ q1
        · have g6 : ((b.length : Int) ≤ q1) = True := eq_true (by omega)
          simp only [endD, he, Bool.false_eq_true, if_false, h6, if_true] at hfD
          simp -implicitDefEqProofs only [go_sem, hT, jq2, j52, forall_eq, n5, Ne.symm n5, m7, Ne.symm m7, m5, Ne.symm m5, he, g6, bYgdD2]
          refine callB_pan (refuse93 s.p 51) ?_
          simp -implicitDefEqProofs only [go_sem]
          exact ⟨_, sf', DLe.refl _, hsf2 _, _, _, hfD, rfl, _, by omega, hfs⟩
        · have g6 : ((b.length : Int) ≤ q1) = False := eq_false (by omega)
          simp only [endD, he, Bool.false_eq_true, if_false, h6] at hfD
          simp -implicitDefEqProofs only [go_sem, hT, jq2, j52, forall_eq, n5, Ne.symm n5, m7, Ne.symm m7, m5, Ne.symm m5, he, g6, bYgdD2]
          exact ⟨_, _, DLe.refl _, hfin2 ⟨q1, f', true, s.cmp + 1, s.fet ++ [s.p]⟩ rfl, _, hfD, rfl, some b', sf', hfs, hoffin _, fun h => hb'q (Option.some.inj h), (fun h => nomatch h), rfl⟩
  have p1 : ((nx : Int) < l.length) = True := eq_true (by omega)
  have p0 : (0 ≤ (nx : Int)) = True := eq_true (by omega)
  have hat := getEy h1
  rw [List.getElem?_eq_getElem h1] at hstr
  by_cases h2 : l[nx].pos < q1
  · simp only [Option.bind_some, if_pos h2] at hstr
    rw [hstr] at hfD
    simp -implicitDefEqProofs only [go_sem, hT, kq, k5, forall_eq, n5, Ne.symm n5, wb, p1, p0, hat, h2, bYgdD2]
    refine callB_pan (refuse93 l[nx].pos 93) ?_
    simp -implicitDefEqProofs only [go_sem]
    exact ⟨_, sf', DLe.refl _, hsfle, _, _, hfD, rfl, _, by omega, hfs⟩
  simp only [Option.bind_some, if_neg h2] at hstr
  simp -implicitDefEqProofs only [go_sem, hT, kq, k5, forall_eq, n5, Ne.symm n5, wb, p1, p0, hat, h2, bYgdD2]
  rw [hstr] at hfD
  refine za4 (apply144 e s.fr I hw) ?_
  obtain ⟨R, hR⟩ : ∃ R, applyR e s.fr I = R := ⟨_, rfl⟩
  obtain ⟨f', err⟩ := R
  rw [hR] at hfD ⊢
  simp -implicitDefEqProofs only [go_sem, hT, kq, k5, forall_eq, n5, Ne.symm n5, bYgdD2]
  intro b7 hb7
  have m7 : b7 ≠ q := fun h => hb7 (by rw [h]; exact .inl (by simp [kq]))
  have m5 : b7 ≠ b5 := fun h => hb7 (by rw [h]; exact .inl (by simp [k5]))
  have hsf7 : St.le sf' (S1.set b7 (eFr f')) := hsfle.trans (le_add hb7)
  by_cases h3 : err = 0
  case neg =>
    simp only [h3, ne_eq, not_false_eq_true, if_true] at hfD
    refine callB_nilX (must95_no s.p err h3) (fun d s' h => h.elim) fun d s' h => ⟨h.2, ?_⟩
    rw [h.1]
    simp -implicitDefEqProofs only [go_sem]
    exact ⟨_, sf', DLe.refl _, hsf7, _, _, hfD, rfl, _, by omega, hfs⟩
  subst h3
  simp only [ne_eq, not_true_eq_false, if_false] at hfD
  simp -implicitDefEqProofs only [go_sem, hT, kq, k5, forall_eq, n5, Ne.symm n5, m7, Ne.symm m7, m5, Ne.symm m5, bYgdD3]
  refine za4 (must95_ok s.p) ?_
  simp -implicitDefEqProofs only [go_sem, hT, kq, k5, forall_eq, n5, Ne.symm n5, m7, Ne.symm m7, m5, Ne.symm m5, bYgdD2]
  refine za4 (jumps83 I.op) ?_
  obtain ⟨S2, hS2⟩ : ∃ S2, (S1.set b7 (eFr f')).set q (eP e b.length l nx fd { s with fr := f', fet := s.fet ++ [s.p] } (some b')) = S2 := ⟨_, rfl⟩
  have jq : S2.box q = some (eP e b.length l nx fd { s with fr := f', fet := s.fet ++ [s.p] } (some b')) := by rw [← hS2, St.set_box, if_pos rfl]
  have j5 : S2.box b5 = some (eIn I) := by rw [← hS2, St.set_box, if_neg n5, St.set_box, if_neg (Ne.symm m5), k5]
  have jbf : S2.buf q = none := by rw [← hS2]; exact kbf
  have hfin2 : ∀ (s2 : PS), s2.fet = s.fet ++ [s.p] → St.le (putL sf' (L0 e b l nx fd s2 (some b') q)) (S2.set q (eP e b.length l nx fd s2 (some b'))) := fun s2 h2 => hfin s2 _ h2 (by
    rw [← hS2, za2]; exact le_set (le_add hb7))
  have hsf0 : St.le sf' S2 := by rw [← hS2]; exact le_off hsf7 hsq
  have hsf2 : ∀ c, St.le sf' (S2.set q c) := fun c => le_off hsf0 hsq
  rw [hS2]
  cases hj : jumpsB I.op.val with
  | false =>
    simp only [hj, Bool.false_eq_true, if_false] at hfD
    simp -implicitDefEqProofs only [go_sem, hT, jq, j5, forall_eq, n5, Ne.symm n5, m7, Ne.symm m7, m5, Ne.symm m5, hj, bYgdD2]
    refine za4 (ends88 I.op) ?_
    cases he : endsB I.op.val with
    | true =>
      simp only [endD, he, if_true] at hfD
      simp -implicitDefEqProofs only [go_sem, hT, jq, j5, forall_eq, n5, Ne.symm n5, m7, Ne.symm m7, m5, Ne.symm m5, he, bYgdD2]
      exact ⟨_, _, DLe.refl _, hfin2 ⟨q1, f', false, s.cmp, s.fet ++ [s.p]⟩ rfl, _, hfD, rfl, some b', sf', hfs, hoffin _, fun h => hb'q (Option.some.inj h), (fun h => nomatch h), rfl⟩
    | false =>
      by_cases h6 : b.length ≤ q1
      · have g6 : ((b.length : Int) ≤ q1) = True := eq_true (by omega)
        simp only [endD, he, Bool.false_eq_true, if_false, h6, if_true] at hfD
        simp -implicitDefEqProofs only [go_sem, hT, jq, j5, forall_eq, n5, Ne.symm n5, m7, Ne.symm m7, m5, Ne.symm m5, he, g6, bYgdD2]
        refine callB_pan (refuse93 s.p 51) ?_
        simp -implicitDefEqProofs only [go_sem]
        exact ⟨_, sf', DLe.refl _, hsf2 _, _, _, hfD, rfl, _, by omega, hfs⟩
      · have g6 : ((b.length : Int) ≤ q1) = False := eq_false (by omega)
        simp only [endD, he, Bool.false_eq_true, if_false, h6] at hfD
        simp -implicitDefEqProofs only [go_sem, hT, jq, j5, forall_eq, n5, Ne.symm n5, m7, Ne.symm m7, m5, Ne.symm m5, he, g6, bYgdD2]
        exact ⟨_, _, DLe.refl _, hfin2 ⟨q1, f', true, s.cmp, s.fet ++ [s.p]⟩ rfl, _, hfD, rfl, some b', sf', hfs, hoffin _, fun h => hb'q (Option.some.inj h), (fun h => nomatch h), rfl⟩
  | true =>
    simp only [hj, if_true] at hfD
    simp -implicitDefEqProofs only [go_sem, hT, jq, j5, forall_eq, n5, Ne.symm n5, m7, Ne.symm m7, m5, Ne.symm m5, hj, bYgdD2]
    refine callB_boxX (b := q) jq jbf (jump145 e b.length l nx fd _ (some b') q I hw hl hc) (fun d s' hR => ?_) fun d s' hR => ?_
    rotate_left
    · obtain ⟨w, hj2, rfl⟩ := hR
      simp -implicitDefEqProofs only [go_sem]
      rw [show jumpD e.cs l b.length s.p I.a f' = some w from hj2] at hfD
      rw [hpos]
      exact ⟨_, sf', DLe.refl _, del_le hsf0 hsq, _, _, hfD, rfl, _, by omega, hfs⟩
    obtain ⟨hj2, rfl, rfl⟩ := hR
    refine ⟨_, rfl, ?_⟩
    have jq2 : (S2.set q (eP e b.length l nx fd { s with fr := f', fet := s.fet ++ [s.p], cmp := s.cmp + 1 } (some b'))).box q = some (eP e b.length l nx fd { s with fr := f', fet := s.fet ++ [s.p], cmp := s.cmp + 1 } (some b')) := by rw [St.set_box, if_pos rfl]
    have j52 : (S2.set q (eP e b.length l nx fd { s with fr := f', fet := s.fet ++ [s.p], cmp := s.cmp + 1 } (some b'))).box b5 = some (eIn I) := by rw [St.set_box, if_neg n5, j5]
    rw [show jumpD e.cs l b.length s.p I.a f' = none from hj2] at hfD
    simp only at hfD
    simp -implicitDefEqProofs only [go_sem, hT, jq2, j52, forall_eq, n5, Ne.symm n5, m7, Ne.symm m7, m5, Ne.symm m5, bYgdD2]
    refine za4 (ends88 I.op) ?_
    cases he : endsB I.op.val with
    | true =>
      simp only [endD, he, if_true] at hfD
      simp -implicitDefEqProofs only [go_sem, hT, jq2, j52, forall_eq, n5, Ne.symm n5, m7, Ne.symm m7, m5, Ne.symm m5, he, bYgdD2]
      exact ⟨_, _, DLe.refl _, hfin2 ⟨q1, f', false, s.cmp + 1, s.fet ++ [s.p]⟩ rfl, _, hfD, rfl, some b', sf', hfs, hoffin _, fun h => hb'q (Option.some.inj h), (fun h => nomatch h), rfl⟩
    | false =>
      by_cases h6 : b.length ≤ q1
      · have g6 : ((b.length : Int) ≤ q1) = True := eq_true (by omega)
        simp only [endD, he, Bool.false_eq_true, if_false, h6, if_true] at hfD
        simp -implicitDefEqProofs only [go_sem, hT, jq2, j52, forall_eq, n5, Ne.symm n5, m7, Ne.symm m7, m5, Ne.symm m5, he, g6, bYgdD2]
        refine callB_pan (refuse93 s.p 51) ?_
        simp -implicitDefEqProofs only [go_sem]
        exact ⟨_, sf', DLe.refl _, hsf2 _, _, _, hfD, rfl, _, by omega, hfs⟩
      · have g6 : ((b.length : Int) ≤ q1) = False := eq_false (by omega)
        simp only [endD, he, Bool.false_eq_true, if_false, h6] at hfD
        simp -implicitDefEqProofs only [go_sem, hT, jq2, j52, forall_eq, n5, Ne.symm n5, m7, Ne.symm m7, m5, Ne.symm m5, he, g6, bYgdD2]
        exact ⟨_, _, DLe.refl _, hfin2 ⟨q1, f', true, s.cmp + 1, s.fet ++ [s.p]⟩ rfl, _, hfD, rfl, some b', sf', hfs, hoffin _, fun h => hb'q (Option.some.inj h), (fun h => nomatch h), rfl⟩
end
open Go.Proofs
theorem cnt_gap {l : List Ey} {p q : Nat} (hpq : p < q) (h : ∀ x ∈ l, ¬ ((p : Int) < x.pos ∧ x.pos < q)) : cnt l q = cnt l ((p : Int) + 1) := by
  unfold cnt
  apply List.countP_congr
  intro x hx
  have := h x hx
  simp only [decide_eq_true_eq]
  omega
theorem next_gap {l : List Ey} (n p : Nat) (hl : Ents l) : ∀ x ∈ l, ¬ ((p : Int) < x.pos ∧ x.pos < (nextP l n p : Int)) := by
  intro x hx ⟨h1, h2⟩
  rw [nextP_cnt hl.rise] at h2
  obtain ⟨i, hi, rfl⟩ := List.getElem_of_mem hx
  have hci : cnt l ((p : Int) + 1) ≤ i := by
    have := (cnt_iff hl.rise (a := (p : Int) + 1) hi)
    omega
  have hlt : cnt l ((p : Int) + 1) < l.length := by omega
  rw [List.getElem?_eq_getElem hlt] at h2
  simp only at h2
  have hle : l[cnt l ((p : Int) + 1)].pos ≤ l[i].pos := by
    by_cases he : cnt l ((p : Int) + 1) = i
    · simp only [he]; omega
    · have := List.pairwise_iff_getElem.1 hl.rise _ i hlt hi (by omega); omega
  have := (hl.rng _ (List.getElem_mem hlt)).1
  split at h2 <;> omega
def askD (b : List Ty) (fet : List Nat) : List Nat := fet.flatMap fun a => List.range' a (sizeOp (decF b a).1.op.val)
section
variable {e : En} {b : List Ty} {l : List Ey} {q : Nat} {g : FuncId} {ca : List D} {FS : List Nat → St → Prop} {sf : St} {s0 : PS}
def runR (e : En) (b : List Ty) (l : List Ey) (s0 : PS) (fd : D) (q : Nat) (FS : List Nat → St → Prop) (d : D) (s' : St) : Prop :=
  ∃ s2, runD e b l (b.length + 1) s0 = .ok s2 ∧ lateE l b.length = none ∧ d = .tup [] ∧ ∃ nx o sf', FS (askD b s2.fet) sf' ∧ offL sf' (L0 e b l nx fd s2 o q) ∧ s' = putL sf' (L0 e b l nx fd s2 o q)
def runP (e : En) (b : List Ty) (l : List Ey) (s0 : PS) (FS : List Nat → St → Prop) (d : D) (s' : St) : Prop :=
  ∃ a w, (runD e b l (b.length + 1) s0 = .no a w ∨ ∃ s2 x, runD e b l (b.length + 1) s0 = .ok s2 ∧ lateE l b.length = some x ∧ a = x.pos ∧ w = 93) ∧ d = refD a w ∧ ∃ az, FS az s' ∧ Asc b.length az
def bYgdE0 := aI @e_len (aI @e_0 (aI @e_3 (aI @e_4 (aI @e_5 (aI @e_7 (aI @e_8 (aI @e_35 (aI @e_en (aI @e_fr (aI @zb8 (aI @gdD (aI @ldD (aI @zb1 (aI @za8 (aI @zb0 (aI @anD (aI @za2 (aI @za3 (aI @ey_0 @ey_1)))))))))))))))))))
theorem run55 (hw : WideE e) (hl : Ents l) (hF : FetchOk g ca b FS) (hb : b.length ≤ 4096) (hs : FS [] sf) (h0 : s0.p = 0) (h1 : s0.cmp = 0) (h2 : s0.fet = []) (hoff : offL sf (L0 e b l 0 (.func (.func g) [] ca) s0 none q)) :
    XCall Tryz.prog 55 [.ptr q 0] (putL sf (L0 e b l 0 (.func (.func g) [] ca) s0 none q)) (runR e b l s0 (.func (.func g) [] ca) q FS) (runP e b l s0 FS) := by
  obtain ⟨fd, hfd⟩ : ∃ fd, D.func (.func g) [] ca = fd := ⟨_, rfl⟩
  obtain ⟨RR, hRR⟩ : ∃ RR, runD e b l (b.length + 1) s0 = RR := ⟨_, rfl⟩
  have hlen := hl.len
  have hc0 : cnt l ((0 : Nat) : Int) = 0 := cnt_zero fun y hy => by have := (hl.rng y hy).1; omega
  have hqb : ∀ (sf : St) (nx : Nat) (s : PS) (o : Option Nat), (putL sf (L0 e b l nx fd s o q)).box q = some (eP e b.length l nx fd s o) := fun sf nx s o => by
    show (grS 1 s.fet.length o (sf.set q _)).box q = _
    rw [grS_boxa, St.set_box, if_pos rfl]
  rw [hfd] at hoff ⊢
  refine F55.xcall rfl fun T hT => ?_
  simp -implicitDefEqProofs only [go_sem, c55, hT, zb1, za8, zb0, anD, za2, forall_eq, za3, ey_0, ey_1]
  refine loopL F55 (fun x : PS × Option Nat × St => [(0, .ptr q 0), (2, .int .i64 x.1.p)]) (fun x => putL x.2.2 (L0 e b l (cnt l x.1.p) fd x.1 x.2.1 q))
    (fun x => (∃ k, b.length < x.1.p + k ∧ runD e b l k x.1 = RR) ∧ x.1.cmp ≤ 2 * x.1.p ∧ x.1.fet.length ≤ x.1.p ∧ x.1.p ≤ b.length ∧ (x.2.1 = none → x.1.fet = []) ∧ x.2.1 ≠ some q ∧ offL x.2.2 (L0 e b l (cnt l x.1.p) fd x.1 x.2.1 q) ∧ FS (askD b x.1.fet) x.2.2 ∧ Asc x.1.p (askD b x.1.fet))
    (fun x => b.length - x.1.p) (s0, none, sf) ⟨⟨b.length + 1, by simp only; omega, hRR⟩, by simp only; omega, by simp [h2], by simp only; omega, fun _ => h2, by simp, by simp only [h0, hc0]; exact hoff, by simp only [h2]; exact hs, by simp only [h2]; exact ⟨List.Pairwise.nil, by simp [askD]⟩⟩ ?_ ?_ ?_
  · simp -implicitDefEqProofs only [go_sem, hT, Int.ofNat_zero, h0]
  · simp only [h0, hc0]; exact St.le.refl _
  clear hT T
  rintro ⟨s, o, sx⟩ ⟨⟨k, hk, hrun⟩, hcmp, hfet, hpb, hon, hoq, hof, hfs, hasc⟩ T hT
  simp only at hk hrun hcmp hfet hpb hon hoq hof hfs hasc hT ⊢
  have kq := hqb sx (cnt l s.p) s o
  by_cases hpl : s.p < b.length
  case neg =>
    have p1 : ((s.p : Int) < b.length) = False := eq_false (by omega)
    have hok : RR = .ok s := by
      rw [← hrun]
      cases k with
      | zero => omega
      | succ k => rw [runD, if_pos (by omega)]
    have hpn : s.p = b.length := by omega
    have hlate : lateE l b.length = l[cnt l s.p]? := by rw [hpn]; exact find_ge hl.rise _
    by_cases h4 : cnt l s.p < l.length
    · have p2 : ((cnt l s.p : Int) < l.length) = True := eq_true (by omega)
      have p3 : (0 ≤ (cnt l s.p : Int)) = True := eq_true (by omega)
      have hat := getEy h4
      simp -implicitDefEqProofs only [go_sem, hT, kq, forall_eq, p1, p2, p3, hat, bYgdE0]
      refine callB_pan (refuse93 l[cnt l s.p].pos 93) ?_
      simp -implicitDefEqProofs only [go_sem]
      exact ⟨_, sx, DLe.refl _, le_putL (St.le.refl _) hof, _, _, .inr ⟨s, l[cnt l s.p], hRR.trans hok, by rw [hlate, List.getElem?_eq_getElem h4], rfl, rfl⟩, rfl, _, hfs, hpn ▸ hasc⟩
    · have p2 : ((cnt l s.p : Int) < l.length) = False := eq_false (by omega)
      simp -implicitDefEqProofs only [go_sem, hT, kq, forall_eq, p1, p2, bYgdE0]
      exact ⟨_, _, DLe.refl _, St.le.refl _, s, hRR.trans hok, by rw [hlate, List.getElem?_eq_none (by omega)], rfl, _, _, _, hfs, hof, rfl⟩
  have p1 : ((s.p : Int) < b.length) = True := eq_true (by omega)
  obtain ⟨kk, rfl⟩ : ∃ kk, k = kk + 1 := ⟨k - 1, by omega⟩
  rw [runD, if_neg (by omega)] at hrun
  have kbf : (putL sx (L0 e b l (cnt l s.p) fd s o q)).buf q = none := by
    cases o with
    | none => show sx.buf q = none; exact not_buf hof.1
    | some x =>
      show (if q = x then _ else sx.buf q) = none
      rw [if_neg (fun h => hoq (by rw [h])), not_buf hof.1]
  simp -implicitDefEqProofs only [go_sem, hT, kq, forall_eq, p1, bYgdE0]
  refine callB_boxX (b := q) kq kbf (come98 e b.length l fd s o q hw hl hb hpl (by omega)) (fun d s' hR => ?_) fun d s' hR => ?_
  rotate_left
  · obtain ⟨w, hcm, rfl⟩ := hR
    rw [hcm] at hrun
    simp -implicitDefEqProofs only [go_sem]
    exact ⟨_, sx, DLe.refl _, del_le (le_putL (St.le.refl _) hof) hof.1, _, _, .inl (hRR.trans hrun.symm), rfl, _, hfs, hasc.mono (by omega)⟩
  obtain ⟨s2, on, hcm, rfl, rfl⟩ := hR
  refine ⟨_, rfl, ?_⟩
  have hcg : ∀ z : Nat, s.p < z → (∀ x ∈ l, ¬ ((s.p : Int) < x.pos ∧ x.pos < (z : Int))) → cnt l ((s.p : Int) + 1) = cnt l z := fun z h h' => (cnt_gap h h').symm
  have hset : s2.fet = s.fet → (putL sx (L0 e b l (cnt l s.p) fd s o q)).set q (eP e b.length l (cnt l ((s.p : Int) + 1)) fd s2 o) = putL sx (L0 e b l (cnt l ((s.p : Int) + 1)) fd s2 o q) := fun h => by
    show (grS 1 s.fet.length o (sx.set q _)).set q _ = grS 1 s2.fet.length o (sx.set q _)
    rw [grS_set, za2, h]
  have kq2 := hqb sx (cnt l ((s.p : Int) + 1)) s2 o
  rw [hcm] at hrun
  cases on with
  | false =>
    obtain ⟨c1, c2, _⟩ := come_off hcm
    have hnp := nextP_gt (l := l) hpl
    have e1 : s2.p = nextP l b.length s.p := by rw [c2]
    have e2 : s2.cmp = s.cmp := by rw [c2]
    have e3 : s2.fet = s.fet := by rw [c2]
    have e4 : s2.live = false := by rw [c2]; exact c1
    rw [hset e3]
    simp -implicitDefEqProofs only [go_sem, hT, kq2, forall_eq, e4, bYgdE0]
    have hg : cnt l ((s.p : Int) + 1) = cnt l s2.p := hcg s2.p (by omega) (by rw [e1]; exact next_gap _ _ hl)
    have hoff2 : offL sx (L0 e b l (cnt l s2.p) fd s2 o q) := by
      show offL sx [.bx q _, .gr 1 s2.fet.length o]
      rw [e3]; exact hof
    refine ⟨(s2, o, sx), ⟨⟨kk, by simp only; omega, hrun⟩, by simp only; omega, by simp only; rw [e3]; omega, by simp only; omega, by simp only; rw [e3]; exact hon, hoq, hoff2, by simp only; rw [e3]; exact hfs, by simp only; rw [e3]; exact hasc.mono (by omega)⟩, by simp only; omega, by simp only, ?_⟩
    simp only
    rw [hg]; exact St.le.refl _
  | true =>
    obtain ⟨c1, c2, c3, c4, _⟩ := come_on hcm
    have c5 : s2.cmp ≤ s.cmp + 1 := by split at c4 <;> omega
    clear c4
    have c6 : s2.fet.length = s.fet.length := by rw [c3]
    rw [hset c3]
    simp -implicitDefEqProofs only [go_sem, hT, kq2, forall_eq, c2, bYgdE0]
    have hof2 : offL sx (L0 e b l (cnt l ((s.p : Int) + 1)) fd s2 o q) := hof
    have hdo := does99 (e := e) (l := l) (s := s2) (nx := cnt l ((s.p : Int) + 1)) (o := o) (q := q) hw hl hF hb (by omega) (by omega) hfs (by rw [c1]; exact hasc) (by rw [hfd]; exact hof2) hoq (by rw [c3]; exact hon) (by omega) c2 (by rw [c1])
    rw [hfd, c1] at hdo
    refine callB_allX hdo (fun d s' hR => ?_) fun d s' hR => ?_
    rotate_left
    · obtain ⟨a, w, hfn, rfl, j, hj, hfj⟩ := hR
      rw [c1] at hfj hj
      simp only [hfn] at hrun
      simp -implicitDefEqProofs only [go_sem]
      exact ⟨_, s', DLe.refl _, St.le.refl _, _, _, .inl (hRR.trans hrun.symm), rfl, _, hfj, (asc_more hasc).mono hj⟩
    obtain ⟨s3, hfm, rfl, o', sf', hfs', hof', ho1, ho2, rfl⟩ := hR
    simp only [hfm] at hrun
    obtain ⟨f1, f2, _, _, _, f6⟩ := fet_ok hfm
    obtain ⟨_, _, f7, f8⟩ := decF_ok f1
    rw [c1] at f1 f2 f7 f8 hfs'
    have e1 : s3.p = s.p + sizeOp (decF b s.p).1.op.val := by rw [f6, c1]
    have e2 : s3.cmp ≤ s2.cmp + 1 := by rw [f6]; simp only; split <;> omega
    have e3 : s3.fet = s.fet ++ [s.p] := by rw [f6, c1, c3]
    have e4 : s3.fet.length = s.fet.length + 1 := by rw [e3]; simp
    have e5 : askD b s3.fet = askD b s.fet ++ List.range' s.p (sizeOp (decF b s.p).1.op.val) := by rw [e3]; simp [askD]
    simp -implicitDefEqProofs only [go_sem, hT, forall_eq, bYgdE0]
    have hg : cnt l ((s.p : Int) + 1) = cnt l s3.p := hcg s3.p (by omega) (by rw [e1]; exact stray_none f2)
    refine ⟨(s3, o', sf'), ⟨⟨kk, by simp only; omega, hrun⟩, by simp only; omega, by simp only; omega, by simp only; omega, ho2, ho1, hof', by simp only; rw [e5]; exact hfs', by simp only; rw [e5, e1]; exact asc_more hasc⟩, by simp only; omega, by simp only, ?_⟩
    simp only
    rw [hg]; exact St.le.refl _
end
open Go.Proofs
theorem sigsErr_zero {c : Nat} : ∀ {l : List Sg}, sigsErr c l = 0 ↔ l.all (sigMayB c) = true
  | [] => by simp [sigsErr]
  | s :: r => by
    rw [sigsErr, List.all_cons, Bool.and_eq_true, ← sigsErr_zero (l := r)]
    by_cases h8 : 8 < s.ps.length
    · rw [if_pos h8]
      have : sigMayB c s = false := by unfold sigMayB; rw [decide_eq_false (by omega)]; rfl
      simp [this]
    · rw [if_neg h8]
      cases hs : sigMayB c s <;> simp
theorem may_can (e : En) (n : Int) : mayE e n ≠ 0 ↔ (canB e = false ∨ n < (psOf e).length ∨ 16 < n) := by
  by_cases hc : canB e = true
  · obtain ⟨hs, h0, hps, hp8, hst⟩ := can_sig hc
    have hm : mayE e n = (startF e.cs.length (psOf e) n).2 := by
      unfold canB at hc
      simp only [Bool.and_eq_true, decide_eq_true_eq] at hc
      unfold mayE
      rw [if_neg (by simp [hc.1.1]), if_neg (by have := hc.1.2.1; omega), if_neg (by simp [sigsErr_zero.2 hc.2]), dif_pos ⟨h0, hs⟩, hps]
    rw [hm]
    constructor
    · intro h
      by_cases h1 : n < (psOf e).length
      · exact .inr (.inl h1)
      by_cases h2 : 16 < n
      · exact .inr (.inr h2)
      exact absurd (start_ok hc h1 h2) h
    · rintro (h | h | h)
      · rw [hc] at h; cases h
      · unfold startF; rw [if_pos (.inr (.inr (.inr (.inl h))))]; decide
      · unfold startF; rw [if_pos (.inr (.inl h))]; decide
  · have hcf : canB e = false := by simpa using hc
    refine ⟨fun _ => .inl hcf, fun _ h => ?_⟩
    unfold mayE at h
    split at h; · rename_i h1; exact h1 h
    rename_i h1
    split at h; · cases h
    rename_i h2
    split at h; · rename_i h3; exact h3 h
    rename_i h3
    split at h
    · rename_i h4
      refine hc ?_
      unfold canB
      simp only [Bool.and_eq_true, decide_eq_true_eq]
      exact ⟨⟨Classical.not_not.1 h1, by omega, h4.1, by omega⟩, sigsErr_zero.1 (Classical.not_not.1 h3)⟩
    · cases h
def beginR (e : En) (n : Int) (m : Nat) (c : List Ty) (d : D) (s' : St) : Prop :=
  beginD e n m c = none ∧ ∃ q, d = .ptr q 0 ∧ s' = ({} : St).set q (eP e m (decC c).1.es 0 .nilfunc (startS e n) none)
def beginP (e : En) (n : Int) (m : Nat) (c : List Ty) (d : D) (s' : St) : Prop := ∃ a w, beginD e n m c = some (a, w) ∧ d = refD a w ∧ s' = {}
def bYgdF0 := aI @ct_len (aI @ct_take (aI @ct_0 (aI @ct_1 (aI @zb1 (aI @za8 (aI @zb0 (aI @za6 (aI @za5 (aI @za7 (aI @zb2 (aI @za9 (aI @anD (aI @za2 (aI @ey_0 (aI @ey_1 (aI @zf8 (aI @zb8 (aI @gdD (aI @ldD @za3)))))))))))))))))))
def bYgdF1 := aI @ct_len (aI @ct_take (aI @ct_0 (aI @ct_1 (aI @zb1 (aI @za8 (aI @zb0 (aI @za6 (aI @za5 (aI @za7 (aI @zb2 (aI @za9 (aI @anD (aI @za2 (aI @ey_0 (aI @ey_1 (aI @zf8 (aI @zb8 (aI @gdD (aI @ldD (aI @za3 @Int.ofNat_zero))))))))))))))))))))
theorem begin53 (e : En) (n : Int) (m : Nat) (c : List Ty) (o2 : Own) (hw : WideE e) (hc : c.length ≤ 140737488355328) (hm : m ≤ 9223372036854775807) :
    XCall Tryz.prog 53 [.agg (eEn e), .int .i64 n, .int .i64 m, .slice o2 (rws eT c)] {} (beginR e n m c) (beginP e n m c) := by
  have hmc := may_can e n
  have en1 : (eEn e)[1]? = some (.slice .no (rws eSg e.sgs)) := rfl
  have en0 : (eEn e)[0]? = some (.slice .no (rws eC e.cs)) := rfl
  have en2 : (eEn e)[2]? = some (.int .i64 e.fn) := rfl
  refine F53.xcall rfl fun T hT => ?_
  simp -implicitDefEqProofs only [go_sem, c53, hT, forall_eq, en0, en1, en2, bYgdF0]
  intro b4
  refine za4 (may31 e n hw) ?_
  by_cases h0 : mayE e n = 0
  case neg =>
    have hb : beginD e n m c = some (0, 1) := by unfold beginD; rw [if_pos (hmc.1 h0)]
    have q0 : ((mayE e n : Int) = 0) = False := eq_false (by omega)
    simp -implicitDefEqProofs only [go_sem, hT, forall_eq, en0, en1, en2, q0, bYgdF0]
    refine callB_pan (refuse93 0 1) ?_
    simp -implicitDefEqProofs only [go_sem]
    exact ⟨_, {}, DLe.refl _, St.le.nil _, _, _, hb, rfl, rfl⟩
  have hno : ¬ (canB e = false ∨ n < (psOf e).length ∨ 16 < n) := fun h => hmc.2 h h0
  have hb0 : beginD e n m c = (if 4096 < m then some ((0 : Int), 4) else if m = 0 then some (0, 51) else if (decC c).2.2 ≠ 0 then some ((decC c).2.1, (decC c).2.2) else match badE e (decC c).1.es with
    | some x => some (x.pos, 65)
    | none => if ((decC c).1.loc : Int) ≠ n then some (0, 32) else none) := by
    unfold beginD; rw [if_neg hno]; rfl
  rw [h0]
  simp -implicitDefEqProofs only [go_sem, hT, forall_eq, en0, en1, en2, bYgdF1]
  have hcan : canB e = true := by
    cases h : canB e with
    | true => rfl
    | false => exact absurd (.inl h) hno
  have h1 : ¬ n < (psOf e).length := fun h => hno (.inr (.inl h))
  have h2 : ¬ 16 < n := fun h => hno (.inr (.inr h))
  by_cases h3 : 4096 < m
  · have g3 : ((4096 : Int) < m) = True := eq_true (by omega)
    rw [if_pos h3] at hb0
    simp -implicitDefEqProofs only [go_sem, hT, forall_eq, g3, bYgdF0]
    refine callB_pan (refuse93 0 4) ?_
    simp -implicitDefEqProofs only [go_sem]
    exact ⟨_, {}, DLe.refl _, St.le.nil _, _, _, hb0, rfl, rfl⟩
  have g3 : ((4096 : Int) < m) = False := eq_false (by omega)
  rw [if_neg h3] at hb0
  by_cases h4 : m = 0
  · have g4 : ((m : Int) = 0) = True := eq_true (by omega)
    rw [if_pos h4] at hb0
    simp -implicitDefEqProofs only [go_sem, hT, forall_eq, g3, g4, bYgdF0]
    refine callB_pan (refuse93 0 51) ?_
    simp -implicitDefEqProofs only [go_sem]
    exact ⟨_, {}, DLe.refl _, St.le.nil _, _, _, hb0, rfl, rfl⟩
  have g4 : ((m : Int) = 0) = False := eq_false (by omega)
  rw [if_neg h4] at hb0
  simp -implicitDefEqProofs only [go_sem, hT, forall_eq, g3, g4, bYgdF0]
  refine za4 (decode94 c o2 hc) ?_
  obtain ⟨hr1, hr2, hr3, hr4⟩ := decC_rise c
  by_cases h5 : (decC c).2.2 = 0
  case neg =>
    rw [if_pos h5] at hb0
    simp -implicitDefEqProofs only [go_sem, hT, forall_eq, bYgdF0]
    intro b9 m1 m2
    refine callB_nilX (must95_no (decC c).2.1 (decC c).2.2 h5) (fun d s' h => h.elim) fun d s' h => ⟨h.2, ?_⟩
    rw [h.1]
    simp -implicitDefEqProofs only [go_sem]
    exact ⟨_, {}, DLe.refl _, St.le.nil _, _, _, hb0, rfl, rfl⟩
  rw [if_neg (by simp [h5])] at hb0
  have hEnts : Ents (decC c).1.es := ⟨hr1, hr2, hr3⟩
  have hbR : beginR e n m c = fun d s' => beginD e n m c = none ∧ ∃ q, d = .ptr q 0 ∧ s' = ({} : St).set q (eP e m (decC c).1.es 0 .nilfunc (startS e n) none) := rfl
  rw [hbR, h5]
  obtain ⟨CC, hCC⟩ : ∃ CC, (decC c).1 = CC := ⟨_, rfl⟩
  rw [hCC] at hb0 hEnts ⊢
  simp -implicitDefEqProofs only [go_sem, hT, forall_eq, bYgdF1]
  intro b9 m1 m2
  refine za4 (must95_ok (decC c).2.1) ?_
  simp -implicitDefEqProofs only [go_sem, hT, forall_eq, m1, m2, bYgdF0]
  obtain ⟨S1, hS1⟩ : ∃ S1, (({} : St).set b4 (eEn e)).set b9 (eCt CC) = S1 := ⟨_, rfl⟩
  have k4 : S1.box b4 = some (eEn e) := by rw [← hS1]; simp [St.set, m1, m2]
  have k9 : S1.box b9 = some (eCt CC) := by rw [← hS1]; simp [St.set]
  rw [hS1]
  have hEl := hEnts.len
  refine loopL F53 (fun i : Nat => [(1, .int .i64 n), (2, .int .i64 m), (4, .ptr b4 0), (9, .ptr b9 0), (38, .slice .no (rws eEy CC.es)), (39, .int .i64 CC.es.length), (40, .int .i64 i)]) (fun _ => S1) (fun i => i ≤ CC.es.length ∧ ∀ x ∈ CC.es.take i, (!x.dead && decide (checkF e.cs.length x.fr ≠ 0)) = false) (fun i => CC.es.length - i) 0 ⟨by omega, by simp⟩ ?_ (St.le.refl _) ?_
  · simp -implicitDefEqProofs only [go_sem, hT, Int.ofNat_zero]
  clear hT T
  rintro i ⟨hi, hn⟩ T hT
  by_cases h : i < CC.es.length
  · have p1 : ((i : Int) < CC.es.length) = True := eq_true (by omega)
    have p0 : (0 ≤ (i : Int)) = True := eq_true (by omega)
    have hax := getEy h
    have w1 : IntKind.wrap .i64 ((i : Int) + 1) = ((i + 1 : Nat) : Int) := wrapN (by omega) (by omega)
    simp -implicitDefEqProofs only [go_sem, hT, forall_eq, k4, k9, en0, en1, en2, p1, p0, hax, w1, bYgdF0]
    intro b13 hb13
    have n16 : b13 ≠ b4 := fun h => hb13 (by rw [h]; exact .inl (by simp [k4]))
    have n17 : b13 ≠ b9 := fun h => hb13 (by rw [h]; exact .inl (by simp [k9]))
    cases hd : CC.es[i].dead with
    | true =>
      simp -implicitDefEqProofs only [go_sem, hT, forall_eq, k4, k9, en0, en1, en2, n16, Ne.symm n16, n17, Ne.symm n17, p1, p0, hax, w1, hd, bYgdF0]
      exact ⟨i + 1, ⟨by omega, take_more h hn (by simp [hd])⟩, by omega, rfl, le_add hb13⟩
    | false =>
      simp -implicitDefEqProofs only [go_sem, hT, forall_eq, k4, k9, en0, en1, en2, n16, Ne.symm n16, n17, Ne.symm n17, p1, p0, hax, w1, hd, bYgdF0]
      refine za4 (check81 e.cs .no CC.es[i].fr) ?_
      by_cases hz : checkF e.cs.length CC.es[i].fr = 0
      · have qz : ((checkF e.cs.length CC.es[i].fr : Int) = 0) = True := eq_true (by omega)
        simp -implicitDefEqProofs only [go_sem, hT, forall_eq, k4, k9, en0, en1, en2, n16, Ne.symm n16, n17, Ne.symm n17, p1, p0, hax, w1, hd, qz, bYgdF0]
        exact ⟨i + 1, ⟨by omega, take_more h hn (by simp [hd, hz])⟩, by omega, rfl, le_add hb13⟩
      · have qz : ((checkF e.cs.length CC.es[i].fr : Int) = 0) = False := eq_false (by omega)
        rw [bad_some h hn (by simp [hd, hz])] at hb0
        simp -implicitDefEqProofs only [go_sem, hT, forall_eq, k4, k9, en0, en1, en2, n16, Ne.symm n16, n17, Ne.symm n17, p1, p0, hax, w1, hd, qz, bYgdF0]
        refine callB_pan (refuse93 CC.es[i].pos 65) ?_
        simp -implicitDefEqProofs only [go_sem]
        exact ⟨_, {}, DLe.refl _, St.le.nil _, _, _, hb0, rfl, rfl⟩
  have p1 : ((i : Int) < CC.es.length) = False := eq_false (by omega)
  rw [show CC.es.take i = CC.es from List.take_of_length_le (by omega)] at hn
  have hbad : badE e CC.es = none := find_none hn
  rw [hbad] at hb0
  clear hn
  simp -implicitDefEqProofs only [go_sem, hT, forall_eq, k4, k9, en0, en1, en2, p1, bYgdF0]
  by_cases h7 : (CC.loc : Int) = n
  case neg =>
    simp -implicitDefEqProofs only [go_sem, hT, forall_eq, k4, k9, en0, en1, en2, p1, h7, bYgdF0]
    refine callB_pan (refuse93 0 32) ?_
    simp -implicitDefEqProofs only [go_sem]
    exact ⟨_, {}, DLe.refl _, St.le.nil _, _, _, hb0.trans (by simp [h7]), rfl, rfl⟩
  have hbn : beginD e n m c = none := hb0.trans (by simp [h7])
  obtain ⟨hs, h0', hps, hp8, hst⟩ := can_sig hcan
  have hat : (rws eSg e.sgs)[e.fn.toNat]?.getD [] = eSg e.sgs[e.fn.toNat] := rws_at hs
  have hs1 : (e.fn < e.sgs.length) = True := by simp; omega
  have hs0 : (0 ≤ e.fn) = True := by simp [h0']
  have sg0 : (eSg e.sgs[e.fn.toNat])[0]? = some (.slice .no (rws eT (psOf e))) := by rw [hps]; rfl
  have sgl : (eSg e.sgs[e.fn.toNat]).length = 2 := rfl
  simp -implicitDefEqProofs only [go_sem, hT, forall_eq, k4, k9, en0, en1, en2, hat, hs1, hs0, sg0, sgl, p1, h7, bYgdF0]
  refine za4 (start68 e.cs .no .no (psOf e) n (by omega)) ?_
  have hso := start_ok hcan h1 h2
  have hss : startS e n = ⟨0, (startF e.cs.length (psOf e) n).1, true, 0, []⟩ := rfl
  generalize startF e.cs.length (psOf e) n = F at *
  obtain ⟨f, er⟩ := F
  simp only at hso hss
  subst hso
  simp -implicitDefEqProofs only [go_sem, hT, forall_eq, k4, k9, en0, en1, en2, hat, hs1, hs0, sg0, sgl, bYgdF1]
  intro b14 hb14
  have n16 : b14 ≠ b4 := fun h => hb14 (by rw [h]; exact .inl (by simp [k4]))
  have n17 : b14 ≠ b9 := fun h => hb14 (by rw [h]; exact .inl (by simp [k9]))
  refine za4 (must95_ok 0) ?_
  simp -implicitDefEqProofs only [go_sem, hT, forall_eq, k4, k9, en0, en1, en2, n16, Ne.symm n16, n17, Ne.symm n17, hat, hs1, hs0, sg0, sgl, bYgdF1]
  simp -implicitDefEqProofs only [go_sem, hT, ct_len, ct_take, ct_0, ct_1, zb1, za8, zb0, za6, za5, za7, zb2, za9, anD, za2, ey_0, ey_1, zf8, forall_eq, zb8, gdD, ldD, za3, k4, k9, en0, en1, en2, n16, Ne.symm n16, n17, Ne.symm n17, hat, hs1, hs0, sg0, sgl, eEn, fr_ta, fr_da, fr_db, fr_la, Int.ofNat_zero]
  intro q hq1 hq2 hq3
  have hQ : D.slice Own.no (rws eC e.cs) :: D.slice Own.no (rws eSg e.sgs) :: D.int IntKind.i64 e.fn :: D.int IntKind.i64 m :: D.slice Own.no (rws eEy CC.es) :: D.int IntKind.i64 0 :: D.nilfunc :: D.slice Own.nil [] :: D.int IntKind.i64 0 :: (eFr f ++ [D.bool true]) = eP e m CC.es 0 .nilfunc (startS e n) none := by rw [hss]; rfl
  rw [hQ]
  exact ⟨_, ({} : St).set q (eP e m CC.es 0 .nilfunc (startS e n) none), DLe.refl _, le_set (St.le.nil _), hbn, q, rfl, rfl⟩
open Go.Proofs
def c51 : AC :=
.seq (rg [oO 2 (.alloc 3), oO 3 (.alloc 32)])
 (.seq (rg [oO 4 (.makeFunc (.func 92) #[] #[tT 2, tT 3]), oN (.defer { callee := .value (tT 4), args := #[], argTypes := #[] })])
 (.seq (rg [oO 5 (.move (tT 0)), oO 6 (cF (tT 5) #[] #[])])
 (.seq (rg [oN (.store 3 (tT 2) (kI 0)), oN (.store 32 (tT 3) (kI 0))])
 .ret)))
def c92 : AC :=
.seq (rg [oO 5 (cB .recover #[] #[]), oO 2 (.assign (tT 5))])
 (.seq (rg [oO 7 (.move (tT 2)), oO 8 (.typeAssert (tT 7) 20 161 true), oO 6 (.move (tT 8)), oO 9 (.extract (tT 6) 0), oO 10 (.extract (tT 6) 1), oO 3 (.alloc 161), oN (.store 161 (tT 3) (tT 9)), oO 4 (.assign (tT 10))])
 (.seq (.seq (rg [oO 11 (.move (tT 2)), oO 12 (.binOp .neq 20 (tT 11) (.const .nilIface) 20), oO 13 (.move (tT 12)), oG 14 (.move (tT 4)) 13 true, oG 15 (.unOp .not 4 (tT 14)) 13 true, oO 16 (.pick (tT 13) (tT 15) (.const (.bool false)))])
 (.cond (tT 16) (rg [oO 17 (.move (tT 2)), oN (.panic (tT 17))])
 (.skip)))
 (.seq (rg [oO 18 (.move (tT 4))])
 (.cond (tT 18) (.seq (.reg true [3] [⟨⟨some 19, .fieldAddr 161 (tT 3) 0, none⟩, false, true⟩, ⟨⟨some 20, .load 3 (tT 19), none⟩, false, true⟩, ⟨⟨some 21, .fieldAddr 161 (tT 3) 1, none⟩, true, true⟩, ⟨⟨some 22, .load 32 (tT 21), none⟩, true, true⟩, oN (.store 3 (tT 0) (tT 20))])
 (rg [oN (.store 32 (tT 1) (tT 22))]))
 (.skip)))))
def c52 : AC :=
.seq (rg [oO 6 (.load 25 (tT 0)), oO 7 (.load 3 (tT 1)), oO 8 (.load 26 (tT 2)), oO 9 (cB .len #[tT 8] #[26]), oO 10 (.load 26 (tT 3)), oO 11 (cF (.func 53) #[tT 6, tT 7, tT 9, tT 10] #[25, 3, 3, 26]), oO 5 (.assign (tT 11))])
 (.seq (rg [oO 12 (.move (tT 5)), oO 13 (.makeFunc (.func 54) #[] #[tT 2]), oO 14 (.nilCheck (tT 12)), oO 15 (.fieldAddr 104 (tT 14) 4), oN (.store 68 (tT 15) (tT 13))])
 (.seq (rg [oO 16 (.move (tT 5)), oO 17 (cF (.func 55) #[tT 16] #[101])])
 (rg [oO 18 (.move (tT 5)), oO 19 (.nilCheck (tT 18)), oO 20 (.fieldAddr 104 (tT 19) 5), oO 21 (.load 31 (tT 20)), oN (.store 31 (tT 4) (tT 21))])))
theorem F52 : Fun1 Tryz.prog 52 22 c52 [] := mkT Tryz.func52 rfl (by decide +kernel) Tryz.ntmps52 rfl (by kernel_rfl) rfl
def c54 : AC :=
.seq (rg [oO 3 (.assign (kB 0))])
 (.seq (rg [oO 4 (.load 26 (tT 1)), oO 5 (.move (tT 0)), oO 6 (.indexAddr 26 (tT 4) (tT 5)), oO 7 (.load 5 (tT 6)), oO 3 (.assign (tT 7))])
 .ret)
theorem F54 : Fun1 Tryz.prog 54 8 c54 [.tmp 3] := mkT Tryz.func54 rfl (by decide +kernel) Tryz.ntmps54 rfl (by kernel_rfl) rfl
def c15 : AC :=
.seq (rg [oO 4 (.box 25 (tT 0)), oO 5 (.box 3 (tT 1)), oO 6 (.box 26 (tT 2)), oO 7 (.box 26 (tT 3)), oO 8 (.alloc 31), oO 9 (.assign (kI 0)), oO 10 (.assign (kI 0))])
 (.seq (rg [oO 11 (.alloc 31)])
 (.seq (rg [oO 15 (.makeFunc (.func 52) #[] #[tT 4, tT 5, tT 6, tT 7, tT 11]), oO 16 (cF (.func 51) #[tT 15] #[1]), oO 14 (.move (tT 16)), oO 17 (.extract (tT 14) 0), oO 18 (.extract (tT 14) 1), oO 12 (.assign (tT 17)), oO 13 (.assign (tT 18))])
 (.seq (rg [oO 19 (.load 31 (tT 11)), oO 20 (.move (tT 12)), oO 21 (.move (tT 13)), oN (.store 31 (tT 8) (tT 19)), oO 9 (.assign (tT 20)), oO 10 (.assign (tT 21))])
 .ret)))
theorem F15 : Fun1 Tryz.prog 15 22 c15 [.cell 8 31, .tmp 9, .tmp 10] := mkT Tryz.func15 rfl (by decide +kernel) Tryz.ntmps15 rfl (by kernel_rfl) rfl
open Go.Proofs
noncomputable def k92 : Code := Tryz.f92.body.getD .skip
noncomputable def q920 : Code := sL k92
noncomputable def q921 : Code := sL (sR k92)
noncomputable def q922 : Code := sL (sL (sR (sR k92)))
noncomputable def q923 : Code := sR (sL (sR (sR k92)))
noncomputable def q924 : Code := sR (sR (sR k92))
noncomputable def ops0 : Array Oper := opsC q920
noncomputable def ops1 : Array Oper := opsC q921
noncomputable def ops2 : Array Oper := opsC q922
theorem body92 : Tryz.f92.body = some (.seq q920 (.seq q921 (.seq (.seq q922 q923) q924))) := by kernel_rfl
theorem q920_is : q920 = .region 0 ops0 false := by kernel_rfl
theorem q921_is : q921 = .region 1 ops1 false := by kernel_rfl
theorem q922_is : q922 = .region 2 ops2 false := by kernel_rfl
noncomputable def oR : Oper := (ops0[0]?).getD default
noncomputable def oS : Oper := (ops0[1]?).getD default
theorem ops0_sz : ops0.size = 2 := by kernel_rfl
theorem ops0_0 : ops0[0]? = some oR := by kernel_rfl
theorem ops0_1 : ops0[1]? = some oS := by kernel_rfl
theorem oR_op : oR.op = .call { callee := .builtin .recover, args := #[], argTypes := #[] } := by kernel_rfl
theorem oR_dst : oR.dst = some 5 := by kernel_rfl
theorem oR_g : oR.guard = none := by kernel_rfl
theorem oS_op : oS.op = .assign (.tmp 5) := by kernel_rfl
theorem oS_dst : oS.dst = some 2 := by kernel_rfl
theorem oS_g : oS.guard = none := by kernel_rfl
theorem oR_run {P : Program} (a : Act) (w : World) : (execOp a.eval oR).run P w = .ok .recover w := by
  simp [execOp, oR_op, resolve, invoke, builtin]
theorem oS_run {P : Program} (a : Act) (w : World) : (execOp a.eval oS).run P w = .ok (.value (a.eval (.tmp 5))) w := by
  simp [execOp, oS_op]
theorem rec92 {Q : Exit → Act → List Frame → World → Prop} {a : Act} {cs cs' : List Frame} {w : World} {v : Value} (hv : recoverD cs = some (v, cs') ∨ recoverD cs = none ∧ v = .nilIface ∧ cs' = cs) (h : Q .normal ((a.put (some 5) v).put (some 2) ((a.put (some 5) v).eval (.tmp 5))) cs' w) : q920.wpS Tryz.prog Q a cs w := by
  rw [q920_is]
  refine wpS_region ?_
  rw [ops0_sz]
  show wpOpsS Tryz.prog ops0 Q [0, 1] a cs w
  simp only [wpOpsS, ops0_0, ops0_1, Region.wanted, oR_g, oS_g, if_true, oR_run]
  rcases hv with hv | ⟨hv, rfl, rfl⟩
  · simp only [hv, oR_dst, oS_run, oS_dst, Oper.upon]; exact h
  · simp only [hv, oR_dst, oS_run, oS_dst, Oper.upon]; exact h
noncomputable def o8 : Oper := (ops1.toList[1]?).getD default
theorem ops1_parts : ops1.toList = ops1.toList.take 1 ++ (o8 :: ops1.toList.drop 2) := by kernel_rfl
theorem ops1_pre : (ops1.toList.take 1).map (plainO ops1.toList) = [oO 7 (.move (tT 2))] := by kernel_rfl
theorem ops1_suf : (ops1.toList.drop 2).map (plainO ops1.toList) = [oO 6 (.move (tT 8)), oO 9 (.extract (tT 6) 0), oO 10 (.extract (tT 6) 1), oO 3 (.alloc 161), oN (.store 161 (tT 3) (tT 9)), oO 4 (.assign (tT 10))] := by kernel_rfl
theorem o8_op : o8.op = .typeAssert (.tmp 7) 20 161 true := by kernel_rfl
theorem o8_dst : o8.dst = some 8 := by kernel_rfl
theorem o8_g : o8.guard = none := by kernel_rfl
theorem o8_run (a : Act) (w : World) (u : Value) (h : a.eval (.tmp 7) = .iface 161 u) : (execOp a.eval o8).run Tryz.prog w = .ok (.value (.tuple #[u, .bool true])) w := by
  simp [execOp, o8_op, Instr.typeAssert, h, run_underlying Tryz.underlying161]
theorem o8_nil (a : Act) (w : World) (h : a.eval (.tmp 7) = .nilIface) : (execOp a.eval o8).run Tryz.prog w = .ok (.value (.tuple #[.agg #[.int .i64 0, .int .i64 0], .bool false])) w := by
  simp [execOp, o8_op, Instr.typeAssert, h, run_underlying Tryz.underlying161, Tryz.zeroValue161]
noncomputable def o12 : Oper := (ops2.toList[1]?).getD default
theorem ops2_parts : ops2.toList = ops2.toList.take 1 ++ (o12 :: ops2.toList.drop 2) := by kernel_rfl
theorem ops2_pre : (ops2.toList.take 1).map (plainO ops2.toList) = [oO 11 (.move (tT 2))] := by kernel_rfl
theorem ops2_suf : (ops2.toList.drop 2).map (plainO ops2.toList) = [oO 13 (.move (tT 12)), oG 14 (.move (tT 4)) 13 true, oG 15 (.unOp .not 4 (tT 14)) 13 true, oO 16 (.pick (tT 13) (tT 15) (.const (.bool false)))] := by kernel_rfl
theorem o12_op : o12.op = .binOp .neq 20 (.tmp 11) (.const .nilIface) 20 := by kernel_rfl
theorem o12_dst : o12.dst = some 12 := by kernel_rfl
theorem o12_g : o12.guard = none := by kernel_rfl
theorem eq_nil (w : World) : (Op.equalIn Op.maxDepth 20 .nilIface .nilIface).run Tryz.prog w = .ok true w := by
  rw [show Op.maxDepth = 9999 + 1 from rfl, Op.equalIn]
  simp [run_underlying Tryz.underlying20]
theorem eq_iface (t : TypeId) (u : Value) (w : World) : (Op.equalIn Op.maxDepth 20 (.iface t u) .nilIface).run Tryz.prog w = .ok false w := by
  rw [show Op.maxDepth = 9999 + 1 from rfl, Op.equalIn]
  simp [run_underlying Tryz.underlying20]
theorem o12_run (a : Act) (w : World) (u : Value) (h : a.eval (.tmp 11) = .iface 161 u) : (execOp a.eval o12).run Tryz.prog w = .ok (.value (.bool true)) w := by
  simp [execOp, o12_op, h, eval_const, eqGuard, binOp, Op.equal, eq_iface]
theorem o12_nil (a : Act) (w : World) (h : a.eval (.tmp 11) = .nilIface) : (execOp a.eval o12).run Tryz.prog w = .ok (.value (.bool false)) w := by
  simp [execOp, o12_op, h, eval_const, eqGuard, binOp, Op.equal, eq_nil]
theorem q923_is : strip q923 = .cond (.tmp 16) (rg [oO 17 (.move (tT 2)), oN (.panic (tT 17))]) .skip := by kernel_rfl
theorem q924_is : strip q924 = acR (acR (acR c92)) := by kernel_rfl
section
variable {M : MMap} {T : Env} {σ : St} {a : Act} {w : World} {b2 b3 : Nat} {a0 : Int} {w0 : Int}
theorem rest92 (x : D) (ok : Bool) (a' : Int) (w' : Nat) (hx : (x = .niliface ∧ ok = false) ∨ (x = refD a' w' ∧ ok = true)) (hi : AInv 23 M T σ a w) (t0 : T 0 = .ptr b2 0) (t1 : T 1 = .ptr b3 0) (t2 : T 2 = x) (h2 : σ.box b2 = some [.int .i64 a0]) (h3 : σ.box b3 = some [.int .i64 w0]) (hne : b2 ≠ b3) :
    (Code.seq q921 (.seq (.seq q922 q923) q924)).wp Tryz.prog (Post 23 M σ w fun y _ s => (y = .normal ∨ y = .ret) ∧ St.le (if ok = true then (σ.set b2 [.int .i64 a']).set b3 [.int .i64 w'] else σ) s) a w := by
  have dom := hi.inv.dom
  refine wp_seq ?_
  rw [q921_is]
  refine wp_region_list ?_
  rw [ops1_parts]
  refine list_cut (Q := Post 23 M σ w fun y T' s => y = .normal ∧ s = σ ∧ T' 0 = .ptr b2 0 ∧ T' 1 = .ptr b3 0 ∧ T' 2 = x ∧ T' 7 = x) noOut ?_ ?_ _ a w ?_
  · rintro e a1 w1 hne' ⟨M1, T1, s1, y, hy, _, _, rfl, _⟩
    exact absurd hy hne'
  rotate_left
  · refine aopsD_plain (M := M) (by decide) (ops1.toList.take 1) ?_ hi dom (KeepF.refl _ _ _)
    rw [ops1_pre]
    simp -implicitDefEqProofs only [go_sem, t0, t1, t2]
  rintro a1 w1 ⟨M1, T1, s1, y, hy, hi1, hk1, -, hs1, u0, u1, u2, u7⟩
  rw [hs1] at hi1 hk1
  obtain ⟨v, dv, hrun, hrv, hdv⟩ : ∃ v dv, (execOp a1.eval o8).run Tryz.prog w1 = .ok (.value v) w1 ∧ Rep M1 w1 dv v ∧ dv = (if ok = true then .tup [.agg [.int .i64 a', .int .i64 w'], .bool true] else .tup [.agg [.int .i64 0, .int .i64 0], .bool false]) := by
    have h7 := hi1.env 7
    rw [u7] at h7
    rcases hx with ⟨rfl, rfl⟩ | ⟨rfl, rfl⟩
    · refine ⟨_, .tup [.agg [.int .i64 0, .int .i64 0], .bool false], o8_nil a1 w1 h7, ?_, rfl⟩
      exact ⟨_, rfl, _, _, rfl, ⟨_, rfl, ⟨_, _, rfl, rfl, _, _, rfl, rfl, rfl⟩, by simp [Value.oneCell']⟩, _, _, rfl, rfl, rfl⟩
    · obtain ⟨u, hu, hr⟩ := h7
      exact ⟨_, .tup [.agg [.int .i64 a', .int .i64 w'], .bool true], o8_run a1 w1 u hu, ⟨_, rfl, _, _, rfl, hr, _, _, rfl, rfl, rfl⟩, rfl⟩
  refine list_value o8_g hrun ?_
  have hi2 : AInv 23 M1 (upd T1 8 dv) σ (a1.put o8.dst v) w1 := by rw [o8_dst]; exact hi1.put (dst := some 8) (fun t ht => by cases ht; decide) hrv
  refine list_mono (Q := Post 23 M σ w fun y T' s => y = .normal ∧ ∃ b, ¬ σ.has b ∧ s = σ.set b (if ok = true then [.int .i64 a', .int .i64 w'] else [.int .i64 0, .int .i64 0]) ∧ T' 0 = .ptr b2 0 ∧ T' 1 = .ptr b3 0 ∧ T' 2 = x ∧ T' 3 = .ptr b 0 ∧ T' 4 = .bool ok) noOut ?_ _ _ _ ?_
  rotate_left
  · refine aopsD_plain (M := M1) (by decide) (ops1.toList.drop 2) ?_ hi2 dom hk1
    rw [ops1_suf, hdv]
    cases ok with
    | true =>
      simp -implicitDefEqProofs only [go_sem, u0, u1, u2, za2]
      intro b hb
      exact ⟨b, hb, rfl, rfl⟩
    | false =>
      simp -implicitDefEqProofs only [go_sem, u0, u1, u2, za2]
      intro b hb
      exact ⟨b, hb, rfl, rfl⟩
  rintro e a3 w3 ⟨M3, T3, s3, y, hy, hi3, hk3, rfl, b, hb, rfl, v0, v1, v2, v3, v4⟩
  obtain rfl := hy
  have hb2 : b ≠ b2 := fun h => hb (by rw [h]; exact .inl (by simp [h2]))
  have hb3 : b ≠ b3 := fun h => hb (by rw [h]; exact .inl (by simp [h3]))
  show (Code.seq (.seq q922 q923) q924).wp Tryz.prog _ a3 w3
  obtain ⟨S3, hS3⟩ : ∃ S3, σ.set b (if ok = true then [.int .i64 a', .int .i64 w'] else [.int .i64 0, .int .i64 0]) = S3 := ⟨_, rfl⟩
  have hS3b : S3.box b = some (if ok = true then [.int .i64 a', .int .i64 w'] else [.int .i64 0, .int .i64 0]) := by rw [← hS3, St.set_box, if_pos rfl]
  have hS32 : S3.box b2 = some [.int .i64 a0] := by rw [← hS3, St.set_box, if_neg (Ne.symm hb2), h2]
  have hS33 : S3.box b3 = some [.int .i64 w0] := by rw [← hS3, St.set_box, if_neg (Ne.symm hb3), h3]
  have hSle : St.le σ S3 := hS3 ▸ le_add hb
  rw [hS3] at hi3 hk3
  refine wp_seq (wp_seq ?_)
  rw [q922_is]
  refine wp_region_list ?_
  rw [ops2_parts]
  refine list_cut (Q := Post 23 M σ w fun y T' s => y = .normal ∧ s = S3 ∧ T' 0 = .ptr b2 0 ∧ T' 1 = .ptr b3 0 ∧ T' 2 = x ∧ T' 3 = .ptr b 0 ∧ T' 4 = .bool ok ∧ T' 11 = x) noOut ?_ ?_ _ a3 w3 ?_
  · rintro e a1 w1 hne' ⟨M1, T1, s1, y, hy, _, _, rfl, _⟩
    exact absurd hy hne'
  rotate_left
  · refine aopsD_plain (M := M3) (by decide) (ops2.toList.take 1) ?_ hi3 dom hk3
    rw [ops2_pre]
    simp -implicitDefEqProofs only [go_sem, v0, v1, v2, v3, v4]
  rintro a4 w4 ⟨M4, T4, s4, y, hy, hi4, hk4, -, hs4, z0, z1, z2, z3, z4, z11⟩
  rw [hs4] at hi4 hk4
  have hrun : (execOp a4.eval o12).run Tryz.prog w4 = .ok (.value (.bool ok)) w4 := by
    have h7 := hi4.env 11
    rw [z11] at h7
    rcases hx with ⟨rfl, rfl⟩ | ⟨rfl, rfl⟩
    · exact o12_nil a4 w4 h7
    · obtain ⟨u, hu, hr⟩ := h7
      exact o12_run a4 w4 u hu
  refine list_value o12_g hrun ?_
  have hi5 : AInv 23 M4 (upd T4 12 (.bool ok)) S3 (a4.put o12.dst (.bool ok)) w4 := by rw [o12_dst]; exact hi4.put (dst := some 12) (d := .bool ok) (fun t ht => by cases ht; decide) rfl
  refine list_mono (Q := Post 23 M σ w fun y T' s => y = .normal ∧ s = S3 ∧ T' 0 = .ptr b2 0 ∧ T' 1 = .ptr b3 0 ∧ T' 3 = .ptr b 0 ∧ T' 4 = .bool ok ∧ T' 16 = .bool false) noOut ?_ _ _ _ ?_
  rotate_left
  · refine aopsD_plain (M := M4) (by decide) (ops2.toList.drop 2) ?_ hi5 dom hk4
    rw [ops2_suf]
    cases ok with
    | true => simp -implicitDefEqProofs only [go_sem, z0, z1, z2, z3, z4]
    | false => simp -implicitDefEqProofs only [go_sem, z0, z1, z2, z3, z4]
  rintro e a6 w6 ⟨M6, T6, s6, y, hy, hi6, hk6, rfl, hs6, y0, y1, y3, y4, y16⟩
  obtain rfl := hy
  rw [hs6] at hi6 hk6
  show q923.wp Tryz.prog _ a6 w6
  refine Code.wp_mono ?_ (vcA_sound (N := 23) Tryz.follows_mixed (by decide) q923 (Q := fun y T' s => y = .normal ∧ s = S3 ∧ T' 0 = .ptr b2 0 ∧ T' 1 = .ptr b3 0 ∧ T' 3 = .ptr b 0 ∧ T' 4 = .bool ok) (by rw [q923_is]; simp -implicitDefEqProofs only [go_sem, y0, y1, y3, y4, y16]) M6 a6 w6 hi6)
  rintro e a7 w7 ⟨M7, T7, s7, y, hy, hi7, hk7, rfl, hs7, x0, x1, x3, x4⟩
  obtain rfl := hy
  rw [hs7] at hi7 hk7
  show q924.wp Tryz.prog _ a7 w7
  have hk7' := hk6.trans dom hk7
  refine Code.wp_mono ?_ (vcA_sound (N := 23) Tryz.follows_mixed (by decide) q924 (Q := fun y T' s => (y = .normal ∨ y = .ret) ∧ St.le (if ok = true then (σ.set b2 [.int .i64 a']).set b3 [.int .i64 w'] else σ) s) ?_ M7 a7 w7 hi7)
  · rintro e a8 w8 hp
    exact Post.trans dom hk7' hp
  rw [q924_is]
  cases ok with
  | false =>
    simp -implicitDefEqProofs only [go_sem, c92, acR, x0, x1, x3, x4]
    exact hSle
  | true =>
    simp only [if_true] at hS3b ⊢
    simp -implicitDefEqProofs only [go_sem, c92, acR, x0, x1, x3, x4, hS3b, hS32, hS33, hne, Ne.symm hne]
    exact ⟨fun x hx => by simp [hx, hS3b], fun h => hb2 h.symm, le_set (le_set hSle)⟩
end
theorem res92 (tmps : Array Value) (w : World) : (results Tryz.f92 tmps).run Tryz.prog w = .ok (.tuple #[]) w := by
  have h : Tryz.f92.results = #[] := by kernel_rfl
  simp [results, h]
section
variable {M : MMap} {σ : St} {w : World} {b2 b3 : Nat} {a0 w0 : Int}
theorem act92 (hi : Inv M σ w) : ∃ tms : Array Value, (#[.pointer (some ⟨b2, 0, none⟩), .pointer (some ⟨b3, 0, none⟩)] ++ Array.replicate (Tryz.f92.ntmps - 2) undef : Array Value) = tms ∧ AInv 23 M (envOf [.ptr b2 0, .ptr b3 0]) σ { tmps := tms, defers := [] } w := by
  refine ⟨_, rfl, hi, by rw [Tryz.ntmps92]; simp, rfl, fun t => ?_⟩
  have hra : zf6 M w [.ptr b2 0, .ptr b3 0] [.pointer (some ⟨b2, 0, none⟩), .pointer (some ⟨b3, 0, none⟩)] := ⟨_, _, rfl, rfl, _, _, rfl, rfl, rfl⟩
  exact envOf_rep hra _ t
theorem deferred92 (u u' : FrameMode) (ok : Bool) (a' : Int) (w' : Nat) (hu : (u = .returning ∧ u' = .returning ∧ ok = false) ∨ (ok = true ∧ ∃ v, Rep M w (refD a' w') v ∧ u = .panicking [{ v, recovered := false }] ∧ u' = .panicking [{ v, recovered := true }]))
    (hi : Inv M σ w) (h2 : σ.box b2 = some [.int .i64 a0]) (h3 : σ.box b3 = some [.int .i64 w0]) (hne : b2 ≠ b3) :
    CallsD Tryz.prog 92 #[.pointer (some ⟨b2, 0, none⟩), .pointer (some ⟨b3, 0, none⟩)] u w fun e u₁ w₁ => e = .returned (.tuple #[]) ∧ u₁ = u' ∧
      ∃ M', Inv M' (if ok = true then (σ.set b2 [.int .i64 a']).set b3 [.int .i64 w'] else σ) w₁ ∧ KeepF M σ w M' (if ok = true then (σ.set b2 [.int .i64 a']).set b3 [.int .i64 w'] else σ) w₁ := by
  refine callsD_of_wpS Tryz.func92 body92 fun c₀ cs hm => ?_
  obtain ⟨tms, htms, hi0⟩ := act92 (b2 := b2) (b3 := b3) hi
  show (Code.seq q920 _).wpS Tryz.prog _ { tmps := (#[.pointer (some ⟨b2, 0, none⟩), .pointer (some ⟨b3, 0, none⟩)] ++ Array.replicate (Tryz.f92.ntmps - 2) undef : Array Value), defers := [] } (c₀ :: cs) w
  rw [htms]
  refine wpS_seq ?_
  obtain ⟨x, v, cs', hv, hx, hrv, hcs⟩ : ∃ x v cs', (recoverD (c₀ :: cs) = some (v, cs') ∨ recoverD (c₀ :: cs) = none ∧ v = .nilIface ∧ cs' = c₀ :: cs) ∧ ((x = .niliface ∧ ok = false) ∨ (x = refD a' w' ∧ ok = true)) ∧ Rep M w x v ∧ cs' = { c₀ with mode := u' } :: cs := by
    rcases hu with ⟨rfl, rfl, rfl⟩ | ⟨rfl, v, hr, rfl, rfl⟩
    · refine ⟨.niliface, .nilIface, c₀ :: cs, .inr ⟨?_, rfl, rfl⟩, .inl ⟨rfl, rfl⟩, rfl, ?_⟩
      · simp [recoverD, hm]
      · cases c₀; simp at hm; subst hm; rfl
    · refine ⟨refD a' w', v, _, .inl ?_, .inr ⟨rfl, rfl⟩, hr, rfl⟩
      simp [recoverD, hm]
  refine rec92 hv ?_
  have hi1 : AInv 23 M (upd (envOf [.ptr b2 0, .ptr b3 0]) 5 x) σ (({ tmps := tms, defers := [] } : Act).put (some 5) v) w := hi0.put (dst := some 5) (fun t ht => by cases ht; decide) hrv
  have hi2 : AInv 23 M (upd (upd (envOf [.ptr b2 0, .ptr b3 0]) 5 x) 2 x) σ ((({ tmps := tms, defers := [] } : Act).put (some 5) v).put (some 2) ((({ tmps := tms, defers := [] } : Act).put (some 5) v).eval (.tmp 5))) w := by
    refine hi1.put (dst := some 2) (d := x) (fun t ht => by cases ht; decide) ?_
    have := hi1.env 5
    rw [show upd (envOf [.ptr b2 0, .ptr b3 0]) 5 x 5 = x from rfl] at this
    exact this
  show (Code.seq q921 _).wpS Tryz.prog _ _ cs' w
  refine wpS_of_wp (Code.wp_mono ?_ (rest92 (b2 := b2) (b3 := b3) (a0 := a0) (w0 := w0) x ok a' w' hx hi2 rfl rfl rfl h2 h3 hne))
  rintro e a1 w1 ⟨M1, T1, s1, y, hy, hi3, hk3, hyy, hle⟩
  have hfin : bodyPostS Tryz.prog Tryz.f92 c₀ cs (fun e u₁ w₁ => e = .returned (.tuple #[]) ∧ u₁ = u' ∧
      ∃ M', Inv M' (if ok = true then (σ.set b2 [.int .i64 a']).set b3 [.int .i64 w'] else σ) w₁ ∧ KeepF M σ w M' (if ok = true then (σ.set b2 [.int .i64 a']).set b3 [.int .i64 w'] else σ) w₁) .ret a1 cs' w1 :=
    ⟨hi3.defers, u', hcs, _, res92 _ _, rfl, rfl, M1, hi3.inv.less hle, hk3.less hle⟩
  rcases hyy with rfl | rfl
  · obtain rfl := hy; exact hfin
  · obtain rfl := hy; exact hfin
end
open Go.Proofs
noncomputable def k51 : Code := Tryz.f51.body.getD .skip
noncomputable def p510 : Code := sL k51
noncomputable def p511 : Code := sL (sR k51)
noncomputable def p512 : Code := sL (sR (sR k51))
noncomputable def p513 : Code := sL (sR (sR (sR k51)))
noncomputable def ops511 : Array Oper := opsC p511
noncomputable def ops512 : Array Oper := opsC p512
theorem body51 : Tryz.f51.body = some (chainC [p510] (.seq p511 (.seq p512 (chainC [p513] .ret)))) := by kernel_rfl
theorem p510_is : chainA [p510] = acL c51 := by kernel_rfl
theorem p511_is : p511 = .region 1 ops511 false := by kernel_rfl
theorem p512_is : p512 = .region 2 ops512 false := by kernel_rfl
theorem p513_is : chainA [p513] = acL (acR (acR (acR c51))) := by kernel_rfl
noncomputable def oMk : Oper := (ops511[0]?).getD default
noncomputable def oDf : Oper := (ops511[1]?).getD default
noncomputable def oMv : Oper := (ops512[0]?).getD default
noncomputable def oCl : Oper := (ops512[1]?).getD default
theorem ops511_is : ops511.toList = [oMk] ++ [oDf] := by kernel_rfl
theorem ops512_is : ops512.toList = [oMv] ++ [oCl] := by kernel_rfl
theorem oMk_pl : [oMk].map (plainO ops511.toList) = [oO 4 (.makeFunc (.func 92) #[] #[tT 2, tT 3])] := by kernel_rfl
theorem oMv_pl : [oMv].map (plainO ops512.toList) = [oO 5 (.move (tT 0))] := by kernel_rfl
theorem oDf_op : oDf.op = .defer { callee := .value (.tmp 4), args := #[], argTypes := #[] } := by kernel_rfl
theorem oDf_dst : oDf.dst = none := by kernel_rfl
theorem oDf_g : oDf.guard = none := by kernel_rfl
theorem oCl_op : oCl.op = .call { callee := .value (.tmp 5), args := #[], argTypes := #[] } := by kernel_rfl
theorem oCl_dst : oCl.dst = some 6 := by kernel_rfl
theorem oCl_g : oCl.guard = none := by kernel_rfl
theorem rs51 : Tryz.f51.results.toList = [.cell 2 3, .cell 3 32] := by kernel_rfl
theorem res51 {T : Env} {σ : St} {b2 b3 : Nat} {x y : Int} (t2 : T 2 = .ptr b2 0) (t3 : T 3 = .ptr b3 0) (h2 : σ.box b2 = some [.int .i64 x]) (h3 : σ.box b3 = some [.int .i64 y]) : resA Tryz.prog T σ Tryz.f51.results.toList = some (.tup [.int .i64 x, .int .i64 y]) := by
  rw [rs51]
  simp -implicitDefEqProofs only [go_sem, t2, t3, h2, h3, za3]
def dfr51 (b2 b3 : Nat) : Deferred := { target := .fn (.func 92) #[.pointer (some ⟨b2, 0, none⟩), .pointer (some ⟨b3, 0, none⟩)], args := #[] }
theorem leave51 {M M₀ : MMap} {σ σ₀ s1 : St} {w w₀ : World} {T : Env} {a : Act} {b2 b3 : Nat} {x y : Int} {u u' : FrameMode} (ok : Bool) (a' : Int) (w' : Nat) {RR : D → St → Prop} (hd₀ : ∀ b, M₀ b ≠ none → b < w₀.heap.size) [DSt]
    (hi : AInv 7 M T σ a w) (hk : KeepF M₀ σ₀ w₀ M σ w) (hd : a.defers = [dfr51 b2 b3]) (t2 : T 2 = .ptr b2 0) (t3 : T 3 = .ptr b3 0) (hσ : σ = (s1.set b2 [.int .i64 x]).set b3 [.int .i64 y]) (hne : b2 ≠ b3) (hs2 : ¬ s1.has b2) (hs3 : ¬ s1.has b3)
    (hu : (u = .returning ∧ u' = .returning ∧ ok = false) ∨ (ok = true ∧ ∃ v, Rep M w (refD a' w') v ∧ u = .panicking [{ v, recovered := false }] ∧ u' = .panicking [{ v, recovered := true }]))
    (hR : RR (.tup [.int .i64 (if ok = true then a' else x), .int .i64 (if ok = true then (w' : Int) else y)]) s1) :
    Leaves Tryz.prog Tryz.f51 a.tmps (fun e w' => ∃ M' s' z, RepE M' w' z e ∧ Inv M' s' w' ∧ KeepF M₀ σ₀ w₀ M' s' w' ∧ ∃ d, z = .ret d ∧ RR d s') a.defers u w := by
  have h2 : σ.box b2 = some [.int .i64 x] := by rw [hσ, St.set_box, if_neg hne, St.set_box, if_pos rfl]
  have h3 : σ.box b3 = some [.int .i64 y] := by rw [hσ, St.set_box, if_pos rfl]
  have hur : u ≠ .run := by rcases hu with ⟨rfl, _⟩ | ⟨_, v, _, rfl, _⟩ <;> simp
  have hset : settle u' = .returning := by rcases hu with ⟨_, rfl, _⟩ | ⟨_, v, _, _, rfl⟩ <;> rfl
  rw [hd]
  refine leaves_cons hur (f := 92) (args := #[.pointer (some ⟨b2, 0, none⟩), .pointer (some ⟨b3, 0, none⟩)]) ?_ ?_
  · exact callFunc_run ⟨Tryz.f92, Tryz.func92, rfl, rfl⟩ _ _
  refine (deferred92 u u' ok a' w' hu hi.inv h2 h3 hne).mono ?_
  rintro e u₁ w₁ ⟨rfl, rfl, M₁, hi1, hk1⟩
  show Leaves Tryz.prog Tryz.f51 a.tmps _ [] (settle u₁) w₁
  rw [hset]
  obtain ⟨σf, hσf⟩ : ∃ σf, (if ok = true then (σ.set b2 [.int .i64 a']).set b3 [.int .i64 w'] else σ) = σf := ⟨_, rfl⟩
  rw [hσf] at hi1 hk1
  have hai : AInv 7 M₁ T σf a w₁ := hi.keep hk1.toKeep hi1
  have f2 : σf.box b2 = some [.int .i64 (if ok = true then a' else x)] := by
    rw [← hσf]; cases ok
    · simp [h2]
    · simp [St.set_box, hne]
  have f3 : σf.box b3 = some [.int .i64 (if ok = true then (w' : Int) else y)] := by
    rw [← hσf]; cases ok
    · simp [h3]
    · simp [St.set_box]
  have hle : St.le s1 σf := by
    have hb : St.le s1 σ := by rw [hσ]; exact le_off (le_off (St.le.refl _) hs2) hs3
    rw [← hσf]; cases ok
    · exact hb
    · exact le_off (le_off hb hs2) hs3
  obtain ⟨v, hv, hrep⟩ := resA_sound (res51 t2 t3 f2 f3) hai
  exact ⟨v, hv, M₁, s1, .ret _, ⟨v, rfl, hrep⟩, hi1.less hle, (hk.trans hd₀ hk1).less hle, _, rfl, hR⟩
theorem caught51 {g : FuncId} {ca : List D} {s : St} {R Rp : D → St → Prop} (h : XCall Tryz.prog g ca s R Rp) (hp : ∀ d s', Rp d s' → ∃ a w, d = refD a w) :
    RCall Tryz.prog 51 [.func (.func g) [] ca] s fun d s' => (∃ d0, R d0 s' ∧ d = .tup [.int .i64 0, .int .i64 0]) ∨ ∃ a w, Rp (refD a w) s' ∧ d = .tup [.int .i64 a, .int .i64 (w : Nat)] := by
  refine ⟨⟨Tryz.f51, Tryz.func51, rfl, rfl⟩, fun M w vs hi hv => ?_⟩
  refine calls_of_wp_defers Tryz.func51 body51 ?_
  obtain ⟨tms, htms⟩ : ∃ tms, (vs.toArray ++ Array.replicate (Tryz.f51.ntmps - vs.toArray.size) undef : Array Value) = tms := ⟨_, rfl⟩
  have hlen : vs.length = 1 := by have := hv.length; simpa using this.symm
  have hsz : tms.size = 7 := by rw [← htms, Tryz.ntmps51]; simp [hlen]
  have hi0 : AInv 7 M (envOf [.func (.func g) [] ca]) s { tmps := tms, defers := [] } w := ⟨hi, hsz, rfl, fun t => by rw [← htms]; exact envOf_rep hv _ t⟩
  have dom := hi.dom
  rw [htms]
  refine wp_chain (M₀ := M) (σ₀ := s) (w₀ := w) (Qx := fun x T' σ' => x = .normal ∧ ∃ b2 b3, ¬ s.has b2 ∧ ¬ s.has b3 ∧ b2 ≠ b3 ∧ σ' = (s.set b2 [.int .i64 0]).set b3 [.int .i64 0] ∧ T' 0 = .func (.func g) [] ca ∧ T' 2 = .ptr b2 0 ∧ T' 3 = .ptr b3 0) Tryz.follows_mixed (by decide) dom ?hy ?hx [p510] ?hv hi0 (KeepF.refl _ _ _)
  case hx =>
    rintro e a1 w1 hne ⟨M1, T1, s1, x, hx, _, _, rfl, _⟩
    exact absurd hx hne
  case hv =>
    rw [p510_is]
    have e0 : envOf [.func (.func g) [] ca] 0 = .func (.func g) [] ca := rfl
    simp -implicitDefEqProofs only [go_sem, c51, acL, e0]
    intro b2 h2 b3 m1 m2 h3
    exact ⟨b2, b3, h2, h3, m2, rfl, rfl, rfl⟩
  rintro a1 w1 ⟨M1, T1, s1, x, hx, hi1, hk1, -, -, b2, b3, hb2, hb3, hne, rfl, t0, t2, t3⟩
  refine wp_seq ?_
  rw [p511_is]
  refine wp_region_list ?_
  rw [ops511_is]
  refine list_cut (Q := Post 7 M s w fun y T' s' => y = .normal ∧ s' = (s.set b2 [.int .i64 0]).set b3 [.int .i64 0] ∧ T' 0 = .func (.func g) [] ca ∧ T' 2 = .ptr b2 0 ∧ T' 3 = .ptr b3 0 ∧ T' 4 = .func (.func 92) [] [.ptr b2 0, .ptr b3 0]) noOut ?_ ?_ _ a1 w1 ?_
  · rintro e a2 w2 hne' ⟨M2, T2, s2, y, hy, _, _, rfl, _⟩
    exact absurd hy hne'
  rotate_left
  · refine aopsD_plain (M := M1) (by decide) [oMk] ?_ hi1 dom hk1
    rw [oMk_pl]
    simp -implicitDefEqProofs only [go_sem, t0, t2, t3]
  rintro a2 w2 ⟨M2, T2, s2, y, hy, hi2, hk2, -, rfl, u0, u2, u3, u4⟩
  have hf4 : a2.eval (.tmp 4) = .func (.func 92) #[] #[.pointer (some ⟨b2, 0, none⟩), .pointer (some ⟨b3, 0, none⟩)] := by
    have := hi2.env 4
    rw [u4] at this
    obtain ⟨vf, vc, e1, e2, e3⟩ := this
    have e4 : vf = #[] := by simpa [zf6] using e2
    obtain ⟨v, vs', e5, e6, v2, vs2, e7, e8, e9⟩ := e3
    obtain rfl := e6
    obtain rfl := e8
    obtain rfl := e9
    subst e7
    have e10 : vc = #[.pointer (some ⟨b2, 0, none⟩), .pointer (some ⟨b3, 0, none⟩)] := by rw [← Array.toList_inj]; exact e5
    rw [e4, e10] at e1; exact e1
  have hrun : (execOp a2.eval oDf).run Tryz.prog w2 = .ok (.defer (dfr51 b2 b3)) w2 := by
    simp [execOp, oDf_op, resolve, hf4, Deferred.ofValue, dfr51]
  refine list_defer oDf_g hrun ?_
  rw [oDf_dst]
  have hz2 := hi2.size
  have hf2 : a2.defers = [] := hi2.defers
  have hinv2 := hi2.inv
  have henv2 := hi2.env
  clear hi1 hi0
  letI : DSt := ⟨[dfr51 b2 b3]⟩
  have hi3 : AInv 7 M2 T2 ((s.set b2 [.int .i64 0]).set b3 [.int .i64 0]) { a2 with defers := dfr51 b2 b3 :: a2.defers } w2 := ⟨hinv2, hz2, by rw [hf2]; rfl, henv2⟩
  show (Code.seq p512 _).wp Tryz.prog _ { a2 with defers := dfr51 b2 b3 :: a2.defers } w2
  refine wp_seq ?_
  rw [p512_is]
  refine wp_region_list ?_
  rw [ops512_is]
  refine list_cut (Q := Post 7 M s w fun y T' s' => y = .normal ∧ s' = (s.set b2 [.int .i64 0]).set b3 [.int .i64 0] ∧ T' 2 = .ptr b2 0 ∧ T' 3 = .ptr b3 0 ∧ T' 5 = .func (.func g) [] ca) noOut ?_ ?_ _ _ w2 ?_
  · rintro e a3 w3 hne' ⟨M3, T3, s3, y, hy, _, _, rfl, _⟩
    exact absurd hy hne'
  rotate_left
  · refine aopsD_plain (M := M2) (by decide) [oMv] ?_ hi3 dom hk2
    rw [oMv_pl]
    simp -implicitDefEqProofs only [go_sem, u0, u2, u3, u4]
  rintro a3 w3 ⟨M3, T3, s3, y, hy, hi4, hk4, -, rfl, v2, v3, v5⟩
  obtain ⟨L, hL⟩ : ∃ L : List LI, [.bx b2 [.int .i64 0], .bx b3 [.int .i64 0]] = L := ⟨_, rfl⟩
  have hput : ∀ s' : St, (s'.set b2 [.int .i64 0]).set b3 [.int .i64 0] = putL s' L := fun s' => by rw [← hL]; rfl
  have hoff : offL s L := by rw [← hL]; exact ⟨hb2, hb3, trivial⟩
  have hj := putL_join (l := L) (apart_nil s) hoff
  rw [show St.join s {} = s by simp [St.join]] at hj
  have hf5 : ∃ vc : Array Value, a3.eval (.tmp 5) = .func (.func g) #[] vc ∧ zf6 M3 w3 ca vc.toList := by
    have := hi4.env 5
    rw [v5] at this
    obtain ⟨vf, vc, e1, e2, e3⟩ := this
    have e4 : vf = #[] := by simpa [zf6] using e2
    exact ⟨vc, by rw [e4] at e1; exact e1, e3⟩
  obtain ⟨vc, hf5, hrc⟩ := hf5
  have hback : ∀ s1, St.apart s1 (putL {} L) → offL s1 L ∧ St.join s1 (putL {} L) = putL s1 L := fun s1 hap => by
    have ho : offL s1 L := off_of hap fun x hx => absurd hx (St.not_has_nil x)
    have h1 := (putL_join (l := L) (apart_nil s1) ho).1
    rw [show St.join s1 {} = s1 by simp [St.join]] at h1
    exact ⟨ho, h1.symm⟩
  refine list_call oCl_g (call_keep (vs := vc) ⟨(hput s).trans hj.1, hj.2⟩ h hi4 hrc (fun hen => ?_) ?_ ?_)
  · simp only [execOp, oCl_op, resolve, hf5, Deferred.ofValue, invoke]
    simpa using callFunc_run hen vc w3
  · intro d v s1 M4 w4 hRd hap hrep hi5 hk5
    obtain ⟨ho, hjn⟩ := hback s1 hap
    rw [hjn] at hi5 hk5
    rw [oCl_dst]
    have hi6 : AInv 7 M4 (upd T3 6 d) (putL s1 L) (a3.put (some 6) v) w4 := hi5.put (dst := some 6) (fun t ht => by cases ht; decide) hrep
    show (chainC [p513] .ret).wp Tryz.prog _ (a3.put (some 6) v) w4
    have hk6 := hk4.trans dom hk5
    have hs2 : ¬ s1.has b2 := by rw [← hL] at ho; exact ho.1
    have hs3 : ¬ s1.has b3 := by rw [← hL] at ho; exact ho.2.1
    refine wp_chain (M₀ := M) (σ₀ := s) (w₀ := w) (Qx := fun x T' σ' => x = .normal ∧ σ' = (s1.set b2 [.int .i64 0]).set b3 [.int .i64 0] ∧ T' 2 = .ptr b2 0 ∧ T' 3 = .ptr b3 0) Tryz.follows_mixed (by decide) dom ?hy2 ?hx2 [p513] ?hv2 hi6 hk6
    case hx2 =>
      rintro e a7 w7 hne' ⟨M7, T7, s7, x, hx, _, _, rfl, _⟩
      exact absurd hx hne'
    case hv2 =>
      rw [p513_is, ← hput]
      simp -implicitDefEqProofs only [go_sem, c51, acL, acR, v2, v3, hne, Ne.symm hne, za2]
      rw [set_comm (Ne.symm hne), za2, za2]
    rintro a7 w7 ⟨M7, T7, s7, x, hx, hi7, hk7, -, -, rfl, x2, x3⟩
    refine wp_ret ?_
    refine leave51 (s1 := s1) (u' := .returning) (a' := 0) (w' := 0) false dom hi7 hk7 hi7.defers x2 x3 rfl hne hs2 hs3 (.inl ⟨rfl, rfl, rfl⟩) ?_
    exact .inl ⟨d, hRd, rfl⟩
  · intro d v s1 M4 w4 hRd hap hrep hi5 hk5
    obtain ⟨ho, hjn⟩ := hback s1 hap
    rw [hjn] at hi5 hk5
    have hs2 : ¬ s1.has b2 := by rw [← hL] at ho; exact ho.1
    have hs3 : ¬ s1.has b3 := by rw [← hL] at ho; exact ho.2.1
    obtain ⟨a', w', rfl⟩ := hp d s1 hRd
    show Leaves Tryz.prog Tryz.f51 a3.tmps _ a3.defers _ w4
    refine leave51 (s1 := s1) (u' := .panicking [{ v, recovered := true }]) (a' := a') (w' := w') true dom hi5 (hk4.trans dom hk5) hi5.defers v2 v3 (by rw [hput]) hne hs2 hs3 (.inr ⟨rfl, v, hrep, rfl, rfl⟩) ?_
    exact .inr ⟨a', w', hRd, rfl⟩
open Go.Proofs
theorem fetch54 (b : List Ty) (o : Own) (b6 : Nat) : FetchOk 54 [.ptr b6 0] b fun _ sf => sf = ({} : St).set b6 [.slice o (rws eT b)] := ⟨fun asked a sf hs _ ha => by
  subst hs
  have p1 : ((a : Int) < b.length) = True := eq_true (by omega)
  have p0 : (0 ≤ (a : Int)) = True := eq_true (by omega)
  have hat := bt_at (b := b) (i := a) ha
  refine F54.xcall rfl fun T hT => ?_
  simp -implicitDefEqProofs only [go_sem, c54, hT, eT_len, p1, p0, hat]
  exact ⟨_, _, DLe.refl _, St.le.refl _, rfl, rfl⟩⟩
theorem e_gh {e : En} {n : Nat} {l : List Ey} {nx : Nat} {fd : D} {s : PS} {o : Option Nat} : ((eP e n l nx fd s o).drop 7).take 2 = [grD 1 o (rws eN s.fet), .int .i64 s.cmp] := rfl
def st52 (e : En) (n : Int) (b c : List Ty) (o o2 : Own) (b4 b5 b6 b7 b11 : Nat) : St :=
  (((((({} : St).set b6 [.slice o (rws eT b)]).set b4 (eEn e)).set b5 [.int .i64 n]).set b7 [.slice o2 (rws eT c)]).set b11 [.slice .nil [], .int .i64 0])
def R52 (e : En) (n : Int) (b c : List Ty) (b11 : Nat) (d : D) (s' : St) : Prop := ∃ fet cmp o, checkD e n b c = ((cmp, fet), 0, 0) ∧ s' = ({} : St).set b11 [grD 1 o (rws eN fet), .int .i64 cmp]
def P52 (e : En) (n : Int) (b c : List Ty) (b11 : Nat) (d : D) (s' : St) : Prop := ∃ a w, checkD e n b c = ((0, []), a, w) ∧ d = refD a w ∧ s' = ({} : St).set b11 [.slice .nil [], .int .i64 0]
def bYgdI0 := aI @zb2 (aI @za9 (aI @anD (aI @za2 (aI @zb8 (aI @gdD (aI @ldD (aI @e_len (aI @e_sfd @e_gh))))))))
theorem check52 (e : En) (n : Int) (b c : List Ty) (o o2 : Own) (b4 b5 b6 b7 b11 : Nat) (hw : WideE e) (hb : b.length ≤ 140737488355328) (hc : c.length ≤ 140737488355328)
    (h1 : b5 ≠ b4) (h2 : b6 ≠ b4) (h3 : b6 ≠ b5) (h4 : b7 ≠ b4) (h5 : b7 ≠ b5) (h6 : b7 ≠ b6) (h7 : b11 ≠ b4) (h8 : b11 ≠ b5) (h9 : b11 ≠ b6) (h10 : b11 ≠ b7) :
    XCall Tryz.prog 52 [.ptr b4 0, .ptr b5 0, .ptr b6 0, .ptr b7 0, .ptr b11 0] (st52 e n b c o o2 b4 b5 b6 b7 b11) (R52 e n b c b11) (P52 e n b c b11) := by
  obtain ⟨S0, hS0⟩ : ∃ S0, st52 e n b c o o2 b4 b5 b6 b7 b11 = S0 := ⟨_, rfl⟩
  have k4 : S0.box b4 = some (eEn e) := by rw [← hS0]; simp [st52, St.set, h1, h2, h3, h4, h5, h6, h7, h8, h9, h10, Ne.symm h1, Ne.symm h2, Ne.symm h3, Ne.symm h4, Ne.symm h5, Ne.symm h6, Ne.symm h7, Ne.symm h8, Ne.symm h9, Ne.symm h10]
  have k5 : S0.box b5 = some [.int .i64 n] := by rw [← hS0]; simp [st52, St.set, h1, h2, h3, h4, h5, h6, h7, h8, h9, h10, Ne.symm h1, Ne.symm h2, Ne.symm h3, Ne.symm h4, Ne.symm h5, Ne.symm h6, Ne.symm h7, Ne.symm h8, Ne.symm h9, Ne.symm h10]
  have k6 : S0.box b6 = some [.slice o (rws eT b)] := by rw [← hS0]; simp [st52, St.set, h1, h2, h3, h4, h5, h6, h7, h8, h9, h10, Ne.symm h1, Ne.symm h2, Ne.symm h3, Ne.symm h4, Ne.symm h5, Ne.symm h6, Ne.symm h7, Ne.symm h8, Ne.symm h9, Ne.symm h10]
  have k7 : S0.box b7 = some [.slice o2 (rws eT c)] := by rw [← hS0]; simp [st52, St.set, h1, h2, h3, h4, h5, h6, h7, h8, h9, h10, Ne.symm h1, Ne.symm h2, Ne.symm h3, Ne.symm h4, Ne.symm h5, Ne.symm h6, Ne.symm h7, Ne.symm h8, Ne.symm h9, Ne.symm h10]
  have k11 : S0.box b11 = some [.slice .nil [], .int .i64 0] := by rw [← hS0]; simp [st52, St.set, h1, h2, h3, h4, h5, h6, h7, h8, h9, h10, Ne.symm h1, Ne.symm h2, Ne.symm h3, Ne.symm h4, Ne.symm h5, Ne.symm h6, Ne.symm h7, Ne.symm h8, Ne.symm h9, Ne.symm h10]
  have hle11 : St.le (({} : St).set b11 [.slice .nil [], .int .i64 0]) S0 := by rw [← hS0, st52]; exact le_set (St.le.nil _)
  refine F52.xcall rfl fun T hT => ?_
  rw [hS0]
  simp -implicitDefEqProofs only [go_sem, c52, hT, k4, k5, k6, k7, k11, forall_eq, bYgdI0]
  obtain ⟨L, hL⟩ : ∃ L : List LI, [.bx b6 [.slice o (rws eT b)], .bx b4 (eEn e), .bx b5 [.int .i64 n], .bx b7 [.slice o2 (rws eT c)], .bx b11 [.slice .nil [], .int .i64 0]] = L := ⟨_, rfl⟩
  have hSL : S0 = putL {} L := by rw [← hS0, ← hL]; rfl
  rw [hSL]
  have hoff0 : offL {} L := by rw [← hL]; exact ⟨St.not_has_nil _, St.not_has_nil _, St.not_has_nil _, St.not_has_nil _, St.not_has_nil _, trivial⟩
  have hle : ∀ s', St.le (({} : St).set b11 [.slice .nil [], .int .i64 0]) (putL s' L) := fun s' => by
    rw [← hL]; exact le_set (St.le.nil _)
  refine callB_under (s := {}) L hoff0 (begin53 e n b.length c o2 hw hc (by omega)) (fun d s' hR hoff => ?_) fun d s' hR => ?_
  rotate_left
  · obtain ⟨a, w, hbg, rfl, rfl⟩ := hR
    simp -implicitDefEqProofs only [go_sem]
    exact ⟨_, _, DLe.refl _, hle _, a, w, checkD_some hbg, rfl, rfl⟩
  obtain ⟨hbg, q, rfl, rfl⟩ := hR
  have hq : b6 ≠ q ∧ b4 ≠ q ∧ b5 ≠ q ∧ b7 ≠ q ∧ b11 ≠ q := by
    have hx : ∀ x, ¬ (({} : St).set q (eP e b.length (decC c).1.es 0 .nilfunc (startS e n) none)).has x → x ≠ q := fun x h he => h (by rw [he, set_has]; exact .inl rfl)
    rw [← hL] at hoff
    obtain ⟨o1, o2, o3, o4, o5, -⟩ := hoff
    exact ⟨hx _ o1, hx _ o2, hx _ o3, hx _ o4, hx _ o5⟩
  obtain ⟨q6, q4, q5, q7, q11⟩ := hq
  have kq : (putL (({} : St).set q (eP e b.length (decC c).1.es 0 .nilfunc (startS e n) none)) L).box q = some (eP e b.length (decC c).1.es 0 .nilfunc (startS e n) none) := by
    rw [← hL]; simp [putL, LI.put, St.set, q6, q4, q5, q7, q11, Ne.symm q6, Ne.symm q4, Ne.symm q5, Ne.symm q7, Ne.symm q11]
  simp -implicitDefEqProofs only [go_sem, hT, kq, forall_eq, q6, q4, q5, q7, q11, Ne.symm q6, Ne.symm q4, Ne.symm q5, Ne.symm q7, Ne.symm q11, bYgdI0]
  obtain ⟨L', hL'⟩ : ∃ L' : List LI, [.bx b4 (eEn e), .bx b5 [.int .i64 n], .bx b7 [.slice o2 (rws eT c)], .bx b11 [.slice .nil [], .int .i64 0]] = L' := ⟨_, rfl⟩
  obtain ⟨sf, hsf⟩ : ∃ sf, ({} : St).set b6 [.slice o (rws eT b)] = sf := ⟨_, rfl⟩
  have hst : (putL (({} : St).set q (eP e b.length (decC c).1.es 0 .nilfunc (startS e n) none)) L).set q (eP e b.length (decC c).1.es 0 (.func (.func 54) [] [.ptr b6 0]) (startS e n) none) =
      putL (putL sf (L0 e b (decC c).1.es 0 (.func (.func 54) [] [.ptr b6 0]) (startS e n) none q)) L' := by
    rw [← hL, ← hL', ← hsf]
    show ((((((({} : St).set q _).set b6 _).set b4 _).set b5 _).set b7 _).set b11 _).set q _ = (((((({} : St).set b6 _).set q _).set b4 _).set b5 _).set b7 _).set b11 _
    rw [set_comm q11, set_comm q7, set_comm q5, set_comm q4, set_comm q6, za2, set_comm (Ne.symm q6)]
  rw [hst]
  obtain ⟨r1, r2, r3, r4⟩ := decC_rise c
  have hb2 : b.length ≤ 4096 := by
    unfold beginD at hbg
    split at hbg; · cases hbg
    split at hbg; · cases hbg
    omega
  have hoffL0 : offL sf (L0 e b (decC c).1.es 0 (.func (.func 54) [] [.ptr b6 0]) (startS e n) none q) := by
    refine ⟨fun h => ?_, fun x hx => (by cases hx), trivial⟩
    rw [← hsf, set_has] at h
    rcases h with h | h
    · exact q6 h.symm
    · exact St.not_has_nil _ h
  have hoffL' : offL (putL sf (L0 e b (decC c).1.es 0 (.func (.func 54) [] [.ptr b6 0]) (startS e n) none q)) L' := by
    have hx : ∀ x, x ≠ q → x ≠ b6 → ¬ (putL sf (L0 e b (decC c).1.es 0 (.func (.func 54) [] [.ptr b6 0]) (startS e n) none q)).has x := fun x h1 h2 h => by
      have h' : (sf.set q (eP e b.length (decC c).1.es 0 (.func (.func 54) [] [.ptr b6 0]) (startS e n) none)).has x := h
      rw [set_has, ← hsf, set_has] at h'
      rcases h' with h | h | h
      · exact h1 h
      · exact h2 h
      · exact St.not_has_nil _ h
    rw [← hL']
    exact ⟨hx _ q4 (Ne.symm h2), hx _ q5 (Ne.symm h3), hx _ q7 h6, hx _ q11 h9, trivial⟩
  have hle' : ∀ s', St.le (({} : St).set b11 [.slice .nil [], .int .i64 0]) (putL s' L') := fun s' => by
    rw [← hL']; exact le_set (St.le.nil _)
  refine callB_under L' hoffL' (run55 (s0 := startS e n) hw ⟨r1, r2, r3⟩ (fetch54 b o b6) hb2 hsf.symm rfl rfl rfl hoffL0) (fun d s' hR hoff2 => ?_) fun d s' hR => ?_
  rotate_left
  · obtain ⟨a, w, hno, rfl, az, hfs, hasc⟩ := hR
    simp -implicitDefEqProofs only [go_sem]
    refine ⟨_, _, DLe.refl _, hle' _, a, w, ?_, rfl, rfl⟩
    unfold checkD
    rw [hbg]
    simp only
    rcases hno with hno | ⟨s2, x, hok, hlate, rfl, rfl⟩
    · rw [hno]
    · rw [hok]; simp only; rw [hlate]
  obtain ⟨s2, hok, hlate, rfl, nx, o', sf', hfs, hof, rfl⟩ := hR
  have kq2 : (putL (putL sf' (L0 e b (decC c).1.es nx (.func (.func 54) [] [.ptr b6 0]) s2 o' q)) L').box q = some (eP e b.length (decC c).1.es nx (.func (.func 54) [] [.ptr b6 0]) s2 o') := by
    rw [← hL']
    simp [putL, L0, LI.put, grS_boxa, St.set, q6, q4, q5, q7, q11, Ne.symm q6, Ne.symm q4, Ne.symm q5, Ne.symm q7, Ne.symm q11]
  have k11' : (putL (putL sf' (L0 e b (decC c).1.es nx (.func (.func 54) [] [.ptr b6 0]) s2 o' q)) L').box b11 = some [.slice .nil [], .int .i64 0] := by
    rw [← hL']; simp [putL, LI.put, St.set]
  have hch : checkD e n b c = ((s2.cmp, s2.fet), 0, 0) := by
    unfold checkD
    rw [hbg]; simp only; rw [hok]; simp only; rw [hlate]
  simp -implicitDefEqProofs only [go_sem, hT, kq2, k11', forall_eq, q6, q4, q5, q7, q11, Ne.symm q6, Ne.symm q4, Ne.symm q5, Ne.symm q7, Ne.symm q11, bYgdI0]
  exact ⟨_, ({} : St).set b11 [grD 1 o' (rws eN s2.fet), .int .i64 s2.cmp], DLe.refl _, le_set (St.le.nil _), s2.fet, s2.cmp, o', hch, rfl⟩
def bYgdI1 := aI @zb2 (aI @za9 (aI @anD (aI @za2 (aI @zb8 (aI @gdD (aI @ldD @za3))))))
theorem check15 (e : En) (n : Int) (b c : List Ty) (o o2 : Own) (hw : WideE e) (hb : b.length ≤ 140737488355328) (hc : c.length ≤ 140737488355328) :
    zf9 Tryz.prog 15 [.agg (eEn e), .int .i64 n, .slice o (rws eT b), .slice o2 (rws eT c)] (.tup [.agg (eGh (checkD e n b c).1), .int .i64 (checkD e n b c).2.1, .int .i64 (checkD e n b c).2.2]) := by
  refine RCall.pcall ?_
  refine F15.rcall rfl fun T hT => ?_
  simp -implicitDefEqProofs only [go_sem, c15, hT, forall_eq, bYgdI1]
  intro b4 b5 m1 m1' b6 m2 m2' m3 m3' b7 m4 m4' m5 m5' m6 m6' b8 m7 m7' m8 m8' m9 m9' m10 m10' b11 n1 n1' n2 n2' n3 n3' n4 n4' n5 n5'
  have hcall := caught51 (check52 e n b c o o2 b4 b5 b6 b7 b11 hw hb hc m1 m3 m2 m6 m5 m4 n5 n4 n3 n2) fun d s' ⟨a, w, _, h, _⟩ => ⟨a, w, h⟩
  have hst : ((((((({} : St).set b4 (eEn e)).set b5 [.int .i64 n]).set b6 [.slice o (rws eT b)]).set b7 [.slice o2 (rws eT c)]).set b8 [.slice .nil [], .int .i64 0]).set b11 [.slice .nil [], .int .i64 0]) = putL (st52 e n b c o o2 b4 b5 b6 b7 b11) [.bx b8 [.slice .nil [], .int .i64 0]] := by
    show _ = (((((({} : St).set b6 _).set b4 _).set b5 _).set b7 _).set b11 _).set b8 _
    rw [set_comm n1', set_comm (σ := (({} : St).set b4 (eEn e))) m2', set_comm (σ := ({} : St)) m3']
  rw [hst]
  refine callB_under [.bx b8 [.slice .nil [], .int .i64 0]] ⟨?_, trivial⟩ (hcall.xcall (Rp := fun _ _ => False)) (fun d s' hR hoff => ?_) fun d s' h => h.elim
  · intro h
    rw [st52, set_has, set_has, set_has, set_has, set_has] at h
    rcases h with h | h | h | h | h | h
    · exact n1' h
    · exact m7 h
    · exact m9 h
    · exact m10 h
    · exact m8 h
    · exact St.not_has_nil _ h
  rcases hR with ⟨d0, ⟨fet, cmp, o', hch, rfl⟩, rfl⟩ | ⟨a, w, ⟨a', w', hch, href, rfl⟩, rfl⟩
  · rw [hch]
    have hp : putL (({} : St).set b11 [grD 1 o' (rws eN fet), .int .i64 cmp]) [.bx b8 [.slice .nil [], .int .i64 0]] = (({} : St).set b11 [grD 1 o' (rws eN fet), .int .i64 cmp]).set b8 [.slice .nil [], .int .i64 0] := rfl
    rw [hp]
    simp -implicitDefEqProofs only [go_sem, hT, forall_eq, n1, n1', bYgdI1]
    exact ⟨_, {}, DLe.tup (.cons (DLe.agg (.cons grD_le (.refl _))) (.refl _)), St.le.nil _, rfl⟩
  · rw [hch]
    have hp : putL (({} : St).set b11 [.slice .nil [], .int .i64 0]) [.bx b8 [.slice .nil [], .int .i64 0]] = (({} : St).set b11 [.slice .nil [], .int .i64 0]).set b8 [.slice .nil [], .int .i64 0] := rfl
    rw [hp]
    simp -implicitDefEqProofs only [go_sem, hT, forall_eq, n1, n1', bYgdI1]
    obtain ⟨e1, e2⟩ : a = a' ∧ (w : Int) = w' := by simpa [refD] using href
    obtain rfl : w = w' := by omega
    subst e1
    exact ⟨_, {}, ghz, St.le.nil _, rfl⟩
open Go.Proofs
def c17 : AC :=
.seq (rg [oO 2 (.assign (.const (.slice none 0 0)))])
 (.seq (.seq (rg [oO 3 (.move (tT 0)), oO 4 (.binOp .eql 26 (tT 3) (.const (.slice none 0 0)) 26)])
 (.cond (tT 4) (.seq (rg [oO 2 (.assign (.const (.slice none 0 0)))])
 (.ret))
 (.skip)))
 (.seq (rg [oO 5 (.buildSlice 26 0 #[]), oO 6 (.move (tT 0)), oO 7 (cB .append #[tT 5, tT 6] #[26, 26]), oO 2 (.assign (tT 7))])
 .ret))
theorem F17 : Fun1 Tryz.prog 17 8 c17 [.tmp 2] := mkT Tryz.func17 rfl (by decide +kernel) Tryz.ntmps17 rfl (by kernel_rfl) rfl
def c28 : AC :=
.seq (rg [oO 2 (.box 31 (tT 0)), oO 3 (.box 31 (tT 1)), oO 4 (.assign (.const (.bool false)))])
 (.seq (rg [oO 5 (.fieldAddr 31 (tT 2) 1), oO 6 (.load 3 (tT 5)), oO 7 (.fieldAddr 31 (tT 3) 1), oO 8 (.load 3 (tT 7)), oO 9 (.binOp .eql 3 (tT 6) (tT 8) 3), oO 10 (.move (tT 9)), oG 11 (.fieldAddr 31 (tT 2) 0) 10 true, oG 12 (.load 29 (tT 11)) 10 true, oG 13 (.fieldAddr 31 (tT 3) 0) 10 true, oG 14 (.load 29 (tT 13)) 10 true, oG 15 (cF (.func 36) #[tT 12, tT 14] #[29, 29]) 10 true, oO 16 (.pick (tT 10) (tT 15) (.const (.bool false))), oO 4 (.assign (tT 16))])
 .ret)
theorem F28 : Fun1 Tryz.prog 28 17 c28 [.tmp 4] := mkT Tryz.func28 rfl (by decide +kernel) Tryz.ntmps28 rfl (by kernel_rfl) rfl
open Go.Proofs
theorem gh_len (g : Nat × List Nat) : (eGh g).length = 2 := rfl
theorem gh_take (g : Nat × List Nat) : (eGh g).take 2 = eGh g := rfl
theorem same28 (g h : Nat × List Nat) (hg : g.2.length ≤ 140737488355328) : zf9 Tryz.prog 28 [.agg (eGh g), .agg (eGh h)] (.bool (decide (g = h))) := by
  refine F28.pcall' rfl fun T hT => ?_
  simp -implicitDefEqProofs only [go_sem, c28, hT, gh_len, gh_take]
  intro b2 b3 n1 n2
  have heI : ∀ l : List Nat, rws eN l = rws eI (l.map (Int.ofNat)) := fun l => by simp [rws, eN, eI]
  have hinj : g.2.map Int.ofNat = h.2.map Int.ofNat ↔ g.2 = h.2 := List.map_inj_right fun a b h => by injection h
  by_cases he : g.1 = h.1
  · have p1 : ((g.1 : Int) = h.1) = True := eq_true (by omega)
    simp -implicitDefEqProofs only [go_sem, hT, gh_len, gh_take, n1, n2, eGh, p1]
    rw [heI, heI]
    refine za4 (equal16 _ _ .no .no (by simpa using hg)) ?_
    simp -implicitDefEqProofs only [go_sem, hT]
    refine zc2 ?_
    rw [decide_eq_decide, hinj]
    exact ⟨fun h' => Prod.ext he h', fun h' => h' ▸ rfl⟩
  · have p1 : ((g.1 : Int) = h.1) = False := eq_false (by omega)
    simp -implicitDefEqProofs only [go_sem, hT, gh_len, gh_take, n1, n2, eGh, p1]
    refine zc2 ?_
    symm
    rw [decide_eq_false_iff_not]
    rintro rfl
    exact he rfl
open Go.Proofs
structure Cd where
  n : Int
  b : List Ty
  c : List Ty
def eCd (c : Cd) : List D := [.int .i64 c.n, .slice .no (rws eT c.b), .slice .no (rws eT c.c)]
theorem eCd_len (c : Cd) : (eCd c).length = 3 := rfl
def WideD (c : Cd) : Prop := c.b.length ≤ 140737488351232 ∧ c.c.length ≤ 140737488351232
theorem run_short {e : En} {b : List Ty} {l : List Ey} {k : Nat} {s : PS} {f : Fr} (h : runD e b l k ⟨0, f, true, 0, []⟩ = .ok s) : s.fet.length ≤ b.length := by
  have := runD_inv (J := fun s => s.fet.length ≤ s.p ∧ s.p ≤ b.length) (J' := fun s => s.fet.length ≤ s.p ∧ s.p ≤ b.length) ?_ ?_ ?_ k _ s ?_ h
  · omega
  · intro s s' hp hJ hc
    obtain ⟨hl, rfl, _⟩ := come_off hc
    have := nextP_gt (l := l) hp
    exact ⟨by simp only; omega, by simp only; omega⟩
  · intro s s' hp hJ hc
    obtain ⟨h1, h2, h3, h4, _⟩ := come_on hc
    rw [h1, h3]
    exact hJ
  · rintro s s' ⟨j1, j2⟩ hf
    obtain ⟨f1, _, _, _, _, rfl⟩ := fet_ok hf
    obtain ⟨_, _, d1, d2⟩ := decF_ok f1
    exact ⟨by simp; omega, by simp only; omega⟩
  · exact ⟨Nat.le_refl _, Nat.zero_le _⟩
theorem checkD_short (e : En) (n : Int) (b c : List Ty) : (checkD e n b c).1.2.length ≤ b.length := by
  unfold checkD
  split
  · simp
  split
  · simp
  rename_i h
  split
  · simp
  · exact run_short h
open Go.Proofs
def c3 : AC :=
.seq (rg [oO 2 (.box 25 (tT 0)), oO 3 (.box 28 (tT 1)), oO 4 (.assign (.const (.bool false)))])
 (.seq (.reg true [3] [⟨⟨some 18, .load 25 (tT 2), none⟩, false, true⟩, ⟨⟨some 19, cF (.func 16) #[tT 18] #[25], none⟩, false, true⟩, ⟨⟨some 20, .fieldAddr 28 (tT 3) 0, none⟩, true, true⟩, ⟨⟨some 21, .load 3 (tT 20), none⟩, true, true⟩, ⟨⟨some 22, .fieldAddr 28 (tT 3) 1, none⟩, true, true⟩, ⟨⟨some 23, .load 26 (tT 22), none⟩, true, true⟩, ⟨⟨some 24, cF (.func 17) #[tT 23] #[26], none⟩, false, true⟩, ⟨⟨some 25, .fieldAddr 28 (tT 3) 2, none⟩, true, true⟩, ⟨⟨some 26, .load 26 (tT 25), none⟩, true, true⟩, ⟨⟨some 27, cF (.func 17) #[tT 26] #[26], none⟩, false, true⟩, ⟨⟨some 28, cF (.func 15) #[tT 19, tT 21, tT 24, tT 27] #[25, 3, 26, 26], none⟩, false, true⟩, ⟨⟨some 17, .move (tT 28), none⟩, false, true⟩, ⟨⟨some 29, .extract (tT 17) 0, none⟩, false, true⟩, ⟨⟨some 30, .extract (tT 17) 1, none⟩, true, true⟩, ⟨⟨some 31, .extract (tT 17) 2, none⟩, true, true⟩, ⟨⟨some 5, .alloc 31, none⟩, true, false⟩, oN (.store 31 (tT 5) (tT 29)), oO 6 (.assign (tT 30)), oO 7 (.assign (tT 31))])
 (.seq (.seq (rg [oO 33 (.load 25 (tT 2)), oO 34 (.fieldAddr 28 (tT 3) 0), oO 35 (.load 3 (tT 34)), oO 36 (.fieldAddr 28 (tT 3) 1), oO 37 (.load 26 (tT 36)), oO 38 (.fieldAddr 28 (tT 3) 2), oO 39 (.load 26 (tT 38)), oO 40 (cF (.func 18) #[tT 33, tT 35, tT 37, tT 39] #[25, 3, 26, 26]), oO 32 (.move (tT 40)), oO 41 (.extract (tT 32) 0), oO 42 (.extract (tT 32) 1), oO 43 (.extract (tT 32) 2), oO 8 (.alloc 31), oN (.store 31 (tT 8) (tT 41)), oO 9 (.assign (tT 42)), oO 10 (.assign (tT 43))])
 (.seq (rg [oO 44 (.move (tT 10)), oO 45 (.binOp .neq 32 (tT 44) (kI 0) 32)])
 (.cond (tT 45) (.seq (rg [oO 46 (.move (tT 7)), oO 47 (.move (tT 10)), oO 48 (.binOp .eql 32 (tT 46) (tT 47) 32), oO 49 (.move (tT 48)), oG 50 (.fieldAddr 31 (tT 5) 0) 49 true, oG 51 (.load 29 (tT 50)) 49 true, oG 52 (cB .len #[tT 51] #[29]) 49 true, oG 53 (.binOp .eql 3 (tT 52) (kI 0) 3) 49 true, oO 54 (.pick (tT 49) (tT 53) (.const (.bool false))), oO 55 (.move (tT 54)), oG 56 (.fieldAddr 31 (tT 5) 1) 55 true, oG 57 (.load 3 (tT 56)) 55 true, oG 58 (.binOp .eql 3 (tT 57) (kI 0) 3) 55 true, oO 59 (.pick (tT 55) (tT 58) (.const (.bool false))), oO 4 (.assign (tT 59))])
 (.ret))
 (.skip))))
 (.seq (.seq (rg [oO 60 (.move (tT 7)), oO 61 (.binOp .neq 32 (tT 60) (kI 0) 32), oO 62 (.move (tT 61)), oG 63 (.fieldAddr 31 (tT 5) 0) 62 false, oG 64 (.load 29 (tT 63)) 62 false, oG 65 (cB .len #[tT 64] #[29]) 62 false, oG 66 (.binOp .eql 3 (tT 65) (kI 0) 3) 62 false, oO 67 (.pick (tT 62) (.const (.bool true)) (tT 66)), oO 68 (.move (tT 67)), oG 69 (.fieldAddr 31 (tT 5) 0) 68 false, oG 70 (.load 29 (tT 69)) 68 false, oG 71 (.indexAddr 29 (tT 70) (kI 0)) 68 false, oG 72 (.load 3 (tT 71)) 68 false, oG 73 (.binOp .neq 3 (tT 72) (kI 0) 3) 68 false, oO 74 (.pick (tT 68) (.const (.bool true)) (tT 73))])
 (.cond (tT 74) (.seq (rg [oO 4 (.assign (.const (.bool false)))])
 (.ret))
 (.skip)))
 (.seq (rg [oO 11 (.assign (kI 0)), oO 12 (.assign (kI 0))])
 (.seq (.seq (rg [oO 75 (.fieldAddr 31 (tT 5) 0), oO 76 (.load 29 (tT 75)), oO 77 (cB .len #[tT 76] #[29]), oO 78 (.move (kI 0))])
 (.block 0 (.loop (.seq (rg [oO 79 (.binOp .lss 3 (tT 78) (tT 77) 3)])
 (.seq (.cond (tT 79) (.skip)
 (.exit 0))
 (.seq (.block 1 (.seq (rg [oO 80 (.indexAddr 29 (tT 76) (tT 78)), oO 81 (.load 3 (tT 80)), oO 14 (.assign (tT 81))])
 (.seq (.seq (rg [oO 82 (.move (tT 14)), oO 83 (.move (tT 12)), oO 84 (.binOp .lss 3 (tT 82) (tT 83) 3)])
 (.cond (tT 84) (.seq (rg [oO 4 (.assign (.const (.bool false)))])
 (.ret))
 (.skip)))
 (.seq (rg [oO 86 (.fieldAddr 28 (tT 3) 1), oO 87 (.load 26 (tT 86)), oO 88 (.move (tT 14)), oO 89 (cF (.func 19) #[tT 87, tT 88] #[26, 3]), oO 85 (.move (tT 89)), oO 90 (.extract (tT 85) 0), oO 91 (.extract (tT 85) 1), oO 15 (.alloc 38), oN (.store 38 (tT 15) (tT 90)), oO 16 (.assign (tT 91))])
 (.seq (.seq (rg [oO 92 (.move (tT 16)), oO 93 (.binOp .neq 32 (tT 92) (kI 0) 32)])
 (.cond (tT 93) (.seq (rg [oO 4 (.assign (.const (.bool false)))])
 (.ret))
 (.skip)))
 (.seq (rg [oO 94 (.move (tT 14)), oO 95 (.fieldAddr 38 (tT 15) 1), oO 96 (.load 5 (tT 95)), oO 97 (cF (.func 20) #[tT 96] #[5]), oO 98 (.binOp .add 3 (tT 94) (tT 97) 3), oO 12 (.assign (tT 98))])
 (.seq (.seq (rg [oO 99 (.fieldAddr 38 (tT 15) 1), oO 100 (.load 5 (tT 99)), oO 101 (cF (.func 21) #[tT 100] #[5]), oO 102 (.unOp .not 4 (tT 101))])
 (.cond (tT 102) (rg [oO 103 (.move (tT 11)), oO 104 (.binOp .add 3 (tT 103) (kI 1) 3), oO 11 (.assign (tT 104))])
 (.skip)))
 (.seq (rg [oO 105 (.fieldAddr 38 (tT 15) 1), oO 106 (.load 5 (tT 105)), oO 107 (cF (.func 22) #[tT 106] #[5])])
 (.cond (tT 107) (rg [oO 108 (.move (tT 11)), oO 109 (.binOp .add 3 (tT 108) (kI 1) 3), oO 11 (.assign (tT 109))])
 (.skip))))))))))
 (rg [oO 110 (.binOp .add 3 (tT 78) (kI 1) 3), oO 78 (.move (tT 110))])))))))
 (.seq (rg [oO 111 (.fieldAddr 31 (tT 5) 1), oO 112 (.load 3 (tT 111)), oO 113 (.binOp .geq 3 (tT 112) (kI 0) 3), oO 114 (.move (tT 113)), oG 115 (.fieldAddr 31 (tT 5) 1) 114 true, oG 116 (.load 3 (tT 115)) 114 true, oG 117 (.move (tT 11)) 114 true, oG 118 (.binOp .add 3 (tT 117) (kI 1) 3) 114 true, oG 119 (.binOp .leq 3 (tT 116) (tT 118) 3) 114 true, oO 120 (.pick (tT 114) (tT 119) (.const (.bool false))), oO 4 (.assign (tT 120))])
 .ret))))))
open Go.Proofs
theorem clone17p (xs : List Ty) (o : Own) (h0 : nilOk o xs.length) (hl : xs.length * 1 ≤ 140737488355328) : zf9 Tryz.prog 17 [.slice o (rws eT xs)] (.slice .no (rws eT xs)) := by
  refine F17.pcall' rfl fun T hT => ?_
  simp -implicitDefEqProofs only [go_sem, c17, hT]
  intro r hr
  refine br_split (fun h => ?_) fun h => ?_
  · exact DLe_nils (nilR_nil hr h fun h => by simpa [rws_nil] using h0 h)
  · simp -implicitDefEqProofs only [go_sem, hT, rws_one eT_len, rws_nil, hl]
    rintro rfl
    exact DLe_nils rfl
theorem checkD_rises {e : En} {n : Int} {b c : List Ty} (h : (checkD e n b c).2.2 = 0) :
    (∃ hd : 0 < (checkD e n b c).1.2.length, (checkD e n b c).1.2[0] = 0) ∧ OkR b (checkD e n b c).1.2 ∧ (checkD e n b c).1.1 ≤ (accR b (checkD e n b c).1.2).2 + 1 := by
  cases hb : beginD e n b.length c with
  | some p =>
    exfalso
    obtain ⟨a, w⟩ := p
    have he : (checkD e n b c).2.2 = w := by unfold checkD; rw [hb]
    rw [he] at h
    subst h
    unfold beginD at hb
    split at hb; · cases hb
    split at hb; · cases hb
    split at hb; · cases hb
    split at hb; · rename_i h4; simp only [Option.some.injEq, Prod.mk.injEq] at hb; exact h4 hb.2
    split at hb
    · cases hb
    · split at hb <;> cases hb
  | none =>
    have hb0 : 0 < b.length := by
      unfold beginD at hb
      split at hb; · cases hb
      split at hb; · cases hb
      split at hb; · cases hb
      omega
    cases hr : runD e b (decC c).1.es (b.length + 1) (startS e n) with
    | no a w =>
      have he : (checkD e n b c).2.2 = w := by unfold checkD; rw [hb]; simp only; rw [hr]
      rw [he] at h
      exact absurd h (runD_no _ _ hr)
    | ok s =>
      cases hl : lateE (decC c).1.es b.length with
      | some x =>
        have he : (checkD e n b c).2.2 = 93 := by unfold checkD; rw [hb]; simp only; rw [hr]; simp only; rw [hl]
        rw [he] at h; cases h
      | none =>
        have he : checkD e n b c = ((s.cmp, s.fet), 0, 0) := by unfold checkD; rw [hb]; simp only; rw [hr]; simp only; rw [hl]
        rw [he]
        have hR := rises_run hr
        have hE := runD_end _ _ _ (by show b.length < 0 + (b.length + 1); omega) hr
        have hne : s.fet ≠ [] := fun h0 => by have := (hR.z h0).1; omega
        refine ⟨⟨List.length_pos_iff.2 hne, ?_⟩, hR.ok, by have := hR.cmp; simp only; omega⟩
        have := hR.hd hne
        rw [List.head_eq_getElem] at this
        exact this
open Go.Proofs
noncomputable def k17 : Code := Tryz.f17.body.getD .skip
noncomputable def q170 : Code := sL k17
noncomputable def q171 : Code := sL (sR k17)
noncomputable def q172 : Code := sL (sR (sR k17))
noncomputable def ops17 : Array Oper := opsC q172
theorem body17 : Tryz.f17.body = some (.seq q170 (.seq q171 (.seq q172 .ret))) := by kernel_rfl
theorem q170_is : strip q170 = acL c17 := by kernel_rfl
theorem q171_is : strip q171 = acL (acR c17) := by kernel_rfl
theorem q172_is : q172 = .region 3 ops17 false := by kernel_rfl
noncomputable def oAp : Oper := (ops17.toList[2]?).getD default
theorem ops17_parts : ops17.toList = ops17.toList.take 2 ++ (oAp :: ops17.toList.drop 3) := by kernel_rfl
theorem ops17_pre : (ops17.toList.take 2).map (plainO ops17.toList) = [oO 5 (.buildSlice 26 0 #[]), oO 6 (.move (tT 0))] := by kernel_rfl
theorem ops17_suf : (ops17.toList.drop 3).map (plainO ops17.toList) = [oO 2 (.assign (tT 7))] := by kernel_rfl
theorem oAp_op : oAp.op = .call { callee := .builtin .append, args := #[.tmp 5, .tmp 6], argTypes := #[26, 26] } := by kernel_rfl
theorem oAp_dst : oAp.dst = some 7 := by kernel_rfl
theorem oAp_g : oAp.guard = none := by kernel_rfl
theorem app17 : AppT Tryz.prog 26 26 5 1 1 := ⟨Tryz.sli26, Tryz.sli26, Tryz.sz5, by decide, Tryz.by5, _, Tryz.zero5, rfl⟩
theorem oAp_run {a : Act} {w w' : World} {v : Value} (h : (Builtin.append_ #[26, 26] oAp.type #[a.eval (.tmp 5), a.eval (.tmp 6)]).run Tryz.prog w = .ok v w') : (execOp a.eval oAp).run Tryz.prog w = .ok (.value v) w' := by
  simp [execOp, oAp_op, resolve, invoke, builtin, h]
theorem clone17b (xs : List Ty) (o : Own) (h0 : nilOk o xs.length) (hx : xs ≠ []) (hl : xs.length ≤ 140737488355328) : RCall Tryz.prog 17 [.slice o (rws eT xs)] {} fun d s' => ∃ b cap junk, d = .bsl b 0 xs.length cap ∧ xs.length ≤ cap ∧ s' = ({} : St).set b ((rws eT xs).flatten ++ List.replicate junk .any) := by
  refine acall_of_body (N := 8) Tryz.func17 body17 (by decide +kernel) Tryz.ntmps17 (by simp) ?_
  intro M a w hi
  have dom := hi.inv.dom
  refine wp_chain (M₀ := M) (σ₀ := {}) (w₀ := w) (Qx := fun x T' σ' => x = .normal ∧ σ' = {} ∧ T' 0 = .slice o (rws eT xs)) Tryz.follows_mixed (by decide) dom ?hy ?hx [q170, q171] ?hv hi (KeepF.refl _ _ _)
  case hx =>
    rintro e a1 w1 hne ⟨M1, T1, s1, x, hx, _, _, rfl, _⟩
    exact absurd hx hne
  case hv =>
    rw [show chainA [q170, q171] = .seq (acL c17) (acL (acR c17)) by simp only [chainA, q170_is, q171_is]]
    have e0 : envOf [.slice o (rws eT xs)] 0 = .slice o (rws eT xs) := rfl
    simp -implicitDefEqProofs only [go_sem, c17, acL, acR, e0]
    intro r hr
    refine br_split (fun h => ?_) fun h => ?_
    · have := nilR_nil hr h fun h => by simpa [rws_nil] using h0 h
      exact absurd (by simpa [rws_nil] using this) hx
    · simp -implicitDefEqProofs only [go_sem, e0]
  rintro a1 w1 ⟨M1, T1, s1, x, hx1, hi1, hk1, -, -, rfl, t0⟩
  refine wp_seq ?_
  rw [q172_is]
  refine wp_region_list ?_
  rw [ops17_parts]
  refine list_cut (Q := Post 8 M {} w fun y T' s' => y = .normal ∧ s' = {} ∧ T' 5 = .slice .exact [] ∧ T' 6 = .slice o (rws eT xs)) noOut ?_ ?_ _ a1 w1 ?_
  · rintro e a2 w2 hne' ⟨M2, T2, s2, y, hy, _, _, rfl, _⟩
    exact absurd hy hne'
  rotate_left
  · refine aopsD_plain (M := M1) (by decide) (ops17.toList.take 2) ?_ hi1 dom hk1
    rw [ops17_pre]
    simp -implicitDefEqProofs only [go_sem, t0]
  rintro a2 w2 ⟨M2, T2, s2, y, hy, hi2, hk2, -, rfl, u5, u6⟩
  have r5 := hi2.env 5
  have r6 := hi2.env 6
  rw [u5] at r5
  rw [u6] at r6
  obtain ⟨bx, off, size, hv5, hrow⟩ := id r5
  have hpos : 0 < (rws eT xs).length := by rw [za0]; exact List.length_pos_iff.2 hx
  obtain ⟨v, w3, M3, b, ncap, junk, hrun, hv, hcap, hb, hi3, hk3⟩ := append_newBx (P := Tryz.prog) app17 hv5 r5 r6 rfl (by simp) (by simp [rws, eT]) (by simpa using hpos) (by decide) (by simpa [za0] using hl) hi2.inv oAp.type
  refine list_value oAp_g (oAp_run hrun) ?_
  have hai := hi2.keep hk3.toKeep hi3
  have hai' : AInv 8 M3 (upd T2 7 (.bsl b 0 xs.length ncap)) (({} : St).set b (([] ++ rws eT xs).flatten ++ List.replicate junk .any)) (a2.put oAp.dst v) w3 := by
    rw [oAp_dst]
    exact hai.put (dst := some 7) (d := .bsl b 0 xs.length ncap) (fun t ht => by cases ht; decide) (by rw [hv]; simp [Rep, za0])
  refine list_mono (Q := Post 8 M {} w fun y T' s' => y = .normal ∧ s' = ({} : St).set b (([] ++ rws eT xs).flatten ++ List.replicate junk .any) ∧ T' 2 = .bsl b 0 xs.length ncap) noOut ?_ _ _ _ ?_
  rotate_left
  · refine aopsD_plain (M := M3) (by decide) (ops17.toList.drop 3) ?_ hai' dom (hk2.trans dom hk3)
    rw [ops17_suf]
    simp -implicitDefEqProofs only [go_sem, ]
  rintro e a4 w4 ⟨M4, T4, s4, y, hy4, hi4, hk4, rfl, rfl, v2⟩
  obtain rfl := hy4
  show (Code.wp Tryz.prog .ret _) a4 w4
  refine wp_ret ?_
  exact ⟨M4, T4, _, .ret, rfl, hi4, hk4, _, _, _, (by show resA Tryz.prog T4 _ [.tmp 2] = _; simp [resA, resOne, resC, v2]), DLe.refl _, St.le.refl _, _, rfl, b, ncap, junk, rfl, by simpa [za0] using hcap, by simp⟩
open Go.Proofs
def rangeI (a : Int) (k : Nat) : List Int := (List.range k).map fun j : Nat => a + (j : Int)
theorem rangeI_succ (a : Int) (k : Nat) : rangeI a (k + 1) = rangeI a k ++ [a + (k : Int)] := by simp [rangeI, List.range_succ]
theorem rangeI_len (a : Int) (k : Nat) : (rangeI a k).length = k := by simp [rangeI]
def endOf (es : List Ey) (n i : Nat) : Int := match es[i + 1]? with | some y => min (n : Int) y.pos | none => n
def pieceD (es : List Ey) (n i : Nat) : List Int := match es[i]? with | some x => if x.dead = true then rangeI x.pos (endOf es n i - x.pos).toNat else [] | none => []
def accD (es : List Ey) (n i : Nat) : List Int := (List.range i).flatMap (pieceD es n)
def stretchD (es : List Ey) (n : Nat) : List Int := accD es n es.length
theorem accD_succ (es : List Ey) (n i : Nat) : accD es n (i + 1) = accD es n i ++ pieceD es n i := by simp [accD, List.range_succ]
theorem accD_le {es : List Ey} {n : Nat} : ∀ (i j : Nat), (accD es n i).length ≤ (accD es n (i + j)).length
  | i, 0 => Nat.le_refl _
  | i, j + 1 => by
    have := accD_le (es := es) (n := n) i j
    rw [← Nat.add_assoc, accD_succ, List.length_append]
    omega
theorem stretches32 (ct : Ct) (n : Nat) (hn : n ≤ 140737488351232) (hl : ct.es.length ≤ 140737488351232) (hp : ∀ x ∈ ct.es, 0 ≤ x.pos ∧ x.pos ≤ 140737488351232) (hs : (stretchD ct.es n).length * 8 ≤ 140737488351232) :
    zf9 Tryz.prog 32 [.agg (eCt ct), .int .i64 n] (.slice .no (rws eI (stretchD ct.es n))) := by
  refine F32.pcall' rfl fun T hT => ?_
  simp -implicitDefEqProofs only [go_sem, c32, hT, ct_len, ct_take]
  intro b2
  simp -implicitDefEqProofs only [go_sem, hT, ct_len, ct_take, eCt]
  have k2 : ∀ l o', (grS 1 l o' (({} : St).set b2 (eCt ct))).box b2 = some (eCt ct) := fun l o' => by rw [grS_boxa]; simp [St.set_box]
  refine loopL F32 (fun x : Nat × Option Nat => [(1, .int .i64 n), (2, .ptr b2 0), (5, grD 1 x.2 (rws eI (accD ct.es n x.1))), (11, .slice .no (rws eEy ct.es)), (12, .int .i64 ct.es.length), (13, .int .i64 x.1)]) (fun x => grS 1 (accD ct.es n x.1).length x.2 (({} : St).set b2 (eCt ct)))
    (fun x => x.1 ≤ ct.es.length ∧ (x.2 = none → (accD ct.es n x.1).length = 0) ∧ grN x.2 (({} : St).set b2 (eCt ct))) (fun x => ct.es.length - x.1) (0, none)
    ⟨Nat.zero_le _, fun _ => rfl, grN_none⟩ ?_ (St.le.refl _) ?_
  · simp -implicitDefEqProofs only [go_sem, hT, Int.ofNat_zero]
    rfl
  clear hT T
  rintro ⟨i, ob⟩ ⟨hi, hok, hgr⟩ T hT
  simp only at hi hok hgr hT ⊢
  by_cases h : i < ct.es.length
  · have h3 : ((i : Int) < ct.es.length) = True := eq_true (by omega)
    have h0 : (0 ≤ (i : Int)) = True := eq_true (by omega)
    have hR : (rws eEy ct.es)[i]?.getD [] = eEy ct.es[i] := rws_at h
    obtain ⟨x0, xn⟩ := hp ct.es[i] (by simp)
    have hpc : pieceD ct.es n i = if ct.es[i].dead = true then rangeI ct.es[i].pos (endOf ct.es n i - ct.es[i].pos).toNat else [] := by
      unfold pieceD; rw [List.getElem?_eq_getElem h]
    have hsucc := accD_succ ct.es n i
    have htot := accD_le (es := ct.es) (n := n) (i + 1) (ct.es.length - (i + 1))
    rw [show i + 1 + (ct.es.length - (i + 1)) = ct.es.length by omega, hsucc, hpc] at htot
    have hwi : IntKind.i64.wrap ((i : Int) + 1) = ((i + 1 : Nat) : Int) := by rw [zb7 (by omega) (by omega)]; simp
    generalize ct.es[i] = x at *
    simp -implicitDefEqProofs only [go_sem, hT, h3, h0, hR, zb1, za8, Int.toNat_natCast]
    intro b7 hb7
    have f2 : ¬ b2 = b7 := fun he => by subst he; exact hb7 (.inl (by rw [k2]; simp))
    cases hd : x.dead with
    | false =>
      rw [hd] at hpc
      rw [if_neg (by simp)] at hpc
      have e1 : accD ct.es n (i + 1) = accD ct.es n i := by rw [hsucc, hpc, List.append_nil]
      simp -implicitDefEqProofs only [go_sem, hT, za2, zb1, za8, ey_1, hd, hwi, gdD, Bool.not_false]
      refine ⟨(i + 1, ob), ⟨by omega, by simp only [e1]; exact hok, hgr⟩, by omega, ?_, ?_⟩
      · simp only [e1]; trivial
      · simp only [e1]; exact le_add hb7
    | true =>
      rw [hd, if_pos rfl] at hpc
      rw [hd, if_pos rfl] at htot
      have hend : endOf ct.es n i ≤ n := by
        unfold endOf; split
        · exact Int.min_le_left _ _
        · exact Int.le_refl _
      by_cases h5 : i + 1 < ct.es.length
      · have p5 : (((i + 1 : Nat) : Int) < ct.es.length) = True := eq_true (by omega)
        have p6 : (0 ≤ ((i + 1 : Nat) : Int)) = True := eq_true (by omega)
        have hR2 : (rws eEy ct.es)[i + 1]?.getD [] = eEy ct.es[i + 1] := rws_at h5
        have hee : endOf ct.es n i = min (n : Int) ct.es[i + 1].pos := by unfold endOf; rw [List.getElem?_eq_getElem h5]
        generalize ct.es[i + 1] = y at *
        simp -implicitDefEqProofs only [go_sem, hT, za2, zb1, za8, ey_1, hd, hwi, gdD, Bool.not_true, f2, k2, eCt, p5, p6, hR2, ey_0, Int.toNat_natCast]
        obtain ⟨e, he⟩ : ∃ e, endOf ct.es n i = e := ⟨_, rfl⟩
        obtain ⟨K, hK⟩ : ∃ K, (e - x.pos).toNat = K := ⟨_, rfl⟩
        rw [he] at hpc hee htot hend
        rw [hK] at hpc htot
        obtain ⟨A, hA⟩ : ∃ A, accD ct.es n i = A := ⟨_, rfl⟩
        rw [hA] at hsucc htot hok
        rw [hpc] at hsucc
        simp only [List.length_append, rangeI_len] at htot
        have hs' : (A.length + K) * 8 ≤ 140737488351232 := Nat.le_trans (Nat.mul_le_mul_right _ htot) hs
        simp only [hA]
        refine loopL F32 (fun z : Nat × Option Nat => [(1, .int .i64 n), (2, .ptr b2 0), (5, grD 1 z.2 (rws eI (A ++ rangeI x.pos z.1))), (8, .int .i64 e), (9, .int .i64 (x.pos + (z.1 : Int))), (11, .slice .no (rws eEy ct.es)), (12, .int .i64 ct.es.length), (13, .int .i64 i)]) (fun z => grS 1 (A.length + z.1) z.2 (({} : St).set b2 (eCt ct)))
          (fun z => z.1 ≤ K ∧ (z.2 = none → A.length + z.1 = 0) ∧ grN z.2 (({} : St).set b2 (eCt ct))) (fun z => K - z.1) (0, ob)
          ⟨Nat.zero_le _, hok, hgr⟩ ?_ (by rw [hA] at hb7; exact le_add hb7) ?_
        · simp -implicitDefEqProofs only [go_sem, hT, hee, hA, rangeI, List.range_zero, List.map_nil, anD, Int.ofNat_zero, Int.add_zero]
        clear hT T
        rintro ⟨k, o2⟩ ⟨hk, hok2, hgr2⟩ T hT
        simp only at hk hok2 hgr2 hT ⊢
        by_cases h7 : k < K
        · have p7 : (x.pos + (k : Int) < e) = True := eq_true (by omega)
          have hwk : IntKind.i64.wrap (x.pos + (k : Int) + 1) = x.pos + ((k + 1 : Nat) : Int) := by rw [zb7 (by omega) (by omega)]; simp; omega
          simp -implicitDefEqProofs only [go_sem, hT, p7, frz]
          refine app_gr' Tryz.sli29 Tryz.sz3 Tryz.by3 Tryz.zero3 rfl (n := A.length + k) (m := 1) (base := ({} : St).set b2 (eCt ct)) (by rw [za0, List.length_append, rangeI_len]) rfl (St.le.refl _) hgr2 hok2 (by simp) (by omega) fun o' σ' hbox hle hn hno => ?_
          have happ : rws eI (A ++ rangeI x.pos k) ++ [[.int .i64 (x.pos + (k : Int))]] = rws eI (A ++ rangeI x.pos (k + 1)) := by rw [rangeI_succ, ← List.append_assoc]; simp [rws, eI]
          simp -implicitDefEqProofs only [go_sem, hT, hbox, hwk]
          rw [happ]
          refine ⟨(k + 1, o'), ⟨by omega, by simpa [Nat.add_assoc] using hno, hn⟩, by omega, ?_, by simpa [Nat.add_assoc] using hle⟩
          trivial
        · have p7 : (x.pos + (k : Int) < e) = False := eq_false (by omega)
          obtain rfl : k = K := by omega
          simp -implicitDefEqProofs only [go_sem, hT, p7, hwi]
          have hlen2 : (accD ct.es n (i + 1)).length = A.length + k := by rw [hsucc, List.length_append, rangeI_len]
          refine ⟨(i + 1, o2), ⟨by omega, by simp only [hlen2]; exact hok2, hgr2⟩, by omega, ?_, ?_⟩
          · simp only [hsucc]; trivial
          · simp only [hlen2]; exact St.le.refl _
      · have p5 : (((i + 1 : Nat) : Int) < ct.es.length) = False := eq_false (by omega)
        have hee : endOf ct.es n i = n := by unfold endOf; rw [List.getElem?_eq_none (by omega)]
        simp -implicitDefEqProofs only [go_sem, hT, za2, zb1, za8, ey_1, hd, hwi, gdD, Bool.not_true, f2, k2, eCt, p5, ey_0]
        obtain ⟨e, he⟩ : ∃ e, endOf ct.es n i = e := ⟨_, rfl⟩
        obtain ⟨K, hK⟩ : ∃ K, (e - x.pos).toNat = K := ⟨_, rfl⟩
        rw [he] at hpc hee htot hend
        rw [hK] at hpc htot
        obtain ⟨A, hA⟩ : ∃ A, accD ct.es n i = A := ⟨_, rfl⟩
        rw [hA] at hsucc htot hok
        rw [hpc] at hsucc
        simp only [List.length_append, rangeI_len] at htot
        have hs' : (A.length + K) * 8 ≤ 140737488351232 := Nat.le_trans (Nat.mul_le_mul_right _ htot) hs
        simp only [hA]
        refine loopL F32 (fun z : Nat × Option Nat => [(1, .int .i64 n), (2, .ptr b2 0), (5, grD 1 z.2 (rws eI (A ++ rangeI x.pos z.1))), (8, .int .i64 e), (9, .int .i64 (x.pos + (z.1 : Int))), (11, .slice .no (rws eEy ct.es)), (12, .int .i64 ct.es.length), (13, .int .i64 i)]) (fun z => grS 1 (A.length + z.1) z.2 (({} : St).set b2 (eCt ct)))
          (fun z => z.1 ≤ K ∧ (z.2 = none → A.length + z.1 = 0) ∧ grN z.2 (({} : St).set b2 (eCt ct))) (fun z => K - z.1) (0, ob)
          ⟨Nat.zero_le _, hok, hgr⟩ ?_ (by rw [hA] at hb7; exact le_add hb7) ?_
        · simp -implicitDefEqProofs only [go_sem, hT, hee, hA, rangeI, List.range_zero, List.map_nil, anD, Int.ofNat_zero, Int.add_zero]
        clear hT T
        rintro ⟨k, o2⟩ ⟨hk, hok2, hgr2⟩ T hT
        simp only at hk hok2 hgr2 hT ⊢
        by_cases h7 : k < K
        · have p7 : (x.pos + (k : Int) < e) = True := eq_true (by omega)
          have hwk : IntKind.i64.wrap (x.pos + (k : Int) + 1) = x.pos + ((k + 1 : Nat) : Int) := by rw [zb7 (by omega) (by omega)]; simp; omega
          simp -implicitDefEqProofs only [go_sem, hT, p7, frz]
          refine app_gr' Tryz.sli29 Tryz.sz3 Tryz.by3 Tryz.zero3 rfl (n := A.length + k) (m := 1) (base := ({} : St).set b2 (eCt ct)) (by rw [za0, List.length_append, rangeI_len]) rfl (St.le.refl _) hgr2 hok2 (by simp) (by omega) fun o' σ' hbox hle hn hno => ?_
          have happ : rws eI (A ++ rangeI x.pos k) ++ [[.int .i64 (x.pos + (k : Int))]] = rws eI (A ++ rangeI x.pos (k + 1)) := by rw [rangeI_succ, ← List.append_assoc]; simp [rws, eI]
          simp -implicitDefEqProofs only [go_sem, hT, hbox, hwk]
          rw [happ]
          refine ⟨(k + 1, o'), ⟨by omega, by simpa [Nat.add_assoc] using hno, hn⟩, by omega, ?_, by simpa [Nat.add_assoc] using hle⟩
          trivial
        · have p7 : (x.pos + (k : Int) < e) = False := eq_false (by omega)
          obtain rfl : k = K := by omega
          simp -implicitDefEqProofs only [go_sem, hT, p7, hwi]
          have hlen2 : (accD ct.es n (i + 1)).length = A.length + k := by rw [hsucc, List.length_append, rangeI_len]
          refine ⟨(i + 1, o2), ⟨by omega, by simp only [hlen2]; exact hok2, hgr2⟩, by omega, ?_, ?_⟩
          · simp only [hsucc]; trivial
          · simp only [hlen2]; exact St.le.refl _
  have h3 : ((i : Int) < ct.es.length) = False := eq_false (by omega)
  obtain rfl : i = ct.es.length := by omega
  simp -implicitDefEqProofs only [go_sem, hT, h3]
  exact grD_le
open Go.Proofs
open Go.Proofs
def c6 : AC :=
.seq (rg [oO 3 (.box 25 (tT 0)), oO 4 (.box 28 (tT 1)), oO 6 (.assign (.const (.bool false)))])
 (.seq (rg [oO 23 (.load 25 (tT 3)), oO 24 (.fieldAddr 28 (tT 4) 0), oO 25 (.load 3 (tT 24)), oO 26 (.fieldAddr 28 (tT 4) 1), oO 27 (.load 26 (tT 26)), oO 28 (.fieldAddr 28 (tT 4) 2), oO 29 (.load 26 (tT 28)), oO 30 (cF (.func 18) #[tT 23, tT 25, tT 27, tT 29] #[25, 3, 26, 26]), oO 22 (.move (tT 30)), oO 31 (.extract (tT 22) 0), oO 32 (.extract (tT 22) 1), oO 33 (.extract (tT 22) 2), oO 7 (.alloc 31), oN (.store 31 (tT 7) (tT 31)), oO 8 (.assign (tT 32)), oO 9 (.assign (tT 33))])
 (.seq (.seq (rg [oO 34 (.move (tT 9)), oO 35 (.binOp .neq 32 (tT 34) (kI 0) 32)])
 (.cond (tT 35) (.seq (.reg true [4] [⟨⟨some 37, .load 25 (tT 3), none⟩, false, true⟩, ⟨⟨some 38, cF (.func 16) #[tT 37] #[25], none⟩, false, true⟩, ⟨⟨some 39, .fieldAddr 28 (tT 4) 0, none⟩, true, true⟩, ⟨⟨some 40, .load 3 (tT 39), none⟩, true, true⟩, ⟨⟨some 41, .fieldAddr 28 (tT 4) 1, none⟩, true, true⟩, ⟨⟨some 42, .load 26 (tT 41), none⟩, true, true⟩, ⟨⟨some 43, cF (.func 17) #[tT 42] #[26], none⟩, false, true⟩, ⟨⟨some 44, .fieldAddr 28 (tT 4) 2, none⟩, true, true⟩, ⟨⟨some 45, .load 26 (tT 44), none⟩, true, true⟩, ⟨⟨some 46, cF (.func 17) #[tT 45] #[26], none⟩, false, true⟩, ⟨⟨some 47, cF (.func 15) #[tT 38, tT 40, tT 43, tT 46] #[25, 3, 26, 26], none⟩, false, true⟩, ⟨⟨some 36, .move (tT 47), none⟩, false, true⟩, ⟨⟨some 48, .extract (tT 36) 0, none⟩, false, true⟩, ⟨⟨some 49, .extract (tT 36) 1, none⟩, true, true⟩, ⟨⟨some 50, .extract (tT 36) 2, none⟩, true, true⟩, ⟨⟨some 10, .alloc 31, none⟩, true, false⟩, oN (.store 31 (tT 10) (tT 48)), oO 11 (.assign (tT 49)), oO 12 (.assign (tT 50))])
 (.seq (rg [oO 51 (.move (tT 12)), oO 52 (.move (tT 9)), oO 53 (.binOp .eql 32 (tT 51) (tT 52) 32), oO 6 (.assign (tT 53))])
 (.ret)))
 (.skip)))
 (.seq (rg [oO 55 (.fieldAddr 28 (tT 4) 2), oO 56 (.load 26 (tT 55)), oO 57 (cF (.func 31) #[tT 56] #[26]), oO 54 (.move (tT 57)), oO 58 (.extract (tT 54) 0), oO 59 (.extract (tT 54) 1), oO 60 (.extract (tT 54) 2), oO 13 (.alloc 52), oN (.store 52 (tT 13) (tT 58)), oO 14 (.assign (tT 59)), oO 15 (.assign (tT 60))])
 (.seq (rg [oO 61 (.fieldAddr 28 (tT 4) 1), oO 62 (.load 26 (tT 61)), oO 63 (cF (.func 17) #[tT 62] #[26]), oO 16 (.assign (tT 63))])
 (.seq (.seq (rg [oO 64 (.load 52 (tT 13)), oO 65 (.move (tT 16)), oO 66 (cB .len #[tT 65] #[26]), oO 67 (cF (.func 32) #[tT 64, tT 66] #[52, 3]), oO 68 (cB .len #[tT 67] #[29]), oO 69 (.move (kI 0))])
 (.block 0 (.loop (.seq (rg [oO 70 (.binOp .lss 3 (tT 69) (tT 68) 3)])
 (.seq (.cond (tT 70) (.skip)
 (.exit 0))
 (.seq (.block 1 (.seq (rg [oO 71 (.move (tT 69)), oO 72 (.indexAddr 29 (tT 67) (tT 69)), oO 73 (.load 3 (tT 72)), oO 17 (.assign (tT 71)), oO 18 (.assign (tT 73))])
 (.seq (rg [oO 74 (.move (tT 17)), oO 75 (.move (tT 2)), oO 76 (cB .len #[tT 75] #[26]), oO 77 (.binOp .lss 3 (tT 74) (tT 76) 3)])
 (.cond (tT 77) (rg [oO 78 (.move (tT 16)), oO 79 (.move (tT 18)), oO 80 (.move (tT 2)), oO 81 (.move (tT 17)), oO 82 (.indexAddr 26 (tT 80) (tT 81)), oO 83 (.load 5 (tT 82)), oO 84 (.indexAddr 26 (tT 78) (tT 79)), oN (.store 5 (tT 84) (tT 83))])
 (.skip)))))
 (rg [oO 85 (.binOp .add 3 (tT 69) (kI 1) 3), oO 69 (.move (tT 85))])))))))
 (.seq (.reg true [4] [⟨⟨some 87, .load 25 (tT 3), none⟩, false, true⟩, ⟨⟨some 88, cF (.func 16) #[tT 87] #[25], none⟩, false, true⟩, ⟨⟨some 89, .fieldAddr 28 (tT 4) 0, none⟩, true, true⟩, ⟨⟨some 90, .load 3 (tT 89), none⟩, true, true⟩, ⟨⟨some 91, .move (tT 16), none⟩, true, true⟩, ⟨⟨some 92, .fieldAddr 28 (tT 4) 2, none⟩, true, true⟩, ⟨⟨some 93, .load 26 (tT 92), none⟩, true, true⟩, ⟨⟨some 94, cF (.func 17) #[tT 93] #[26], none⟩, false, true⟩, ⟨⟨some 95, cF (.func 15) #[tT 88, tT 90, tT 91, tT 94] #[25, 3, 26, 26], none⟩, false, true⟩, ⟨⟨some 86, .move (tT 95), none⟩, false, true⟩, ⟨⟨some 96, .extract (tT 86) 0, none⟩, false, true⟩, ⟨⟨some 97, .extract (tT 86) 1, none⟩, true, true⟩, ⟨⟨some 98, .extract (tT 86) 2, none⟩, true, true⟩, ⟨⟨some 19, .alloc 31, none⟩, true, false⟩, oN (.store 31 (tT 19) (tT 96)), oO 20 (.assign (tT 97)), oO 21 (.assign (tT 98))])
 (.seq (rg [oO 99 (.move (tT 21)), oO 100 (.binOp .eql 32 (tT 99) (kI 0) 32), oO 101 (.move (tT 100)), oG 102 (.move (tT 20)) 101 true, oG 103 (.binOp .eql 3 (tT 102) (kI 0) 3) 101 true, oO 104 (.pick (tT 101) (tT 103) (.const (.bool false))), oO 105 (.move (tT 104)), oG 106 (.load 31 (tT 7)) 105 true, oG 107 (.load 31 (tT 19)) 105 true, oG 108 (cF (.func 28) #[tT 106, tT 107] #[31, 31]) 105 true, oO 109 (.pick (tT 105) (tT 108) (.const (.bool false))), oO 6 (.assign (tT 109))])
 .ret)))))))
theorem F6 : Fun1 Tryz.prog 6 110 c6 [.tmp 6] := mkT Tryz.func6 rfl (by decide +kernel) Tryz.ntmps6 rfl (by kernel_rfl) rfl
open Go.Proofs
theorem stretch_dead {es : List Ey} {n : Nat} {a : Int} (hr : Rise es) (hp : ∀ x ∈ es, 0 ≤ x.pos) (h : a ∈ stretchD es n) : deadAt es a = true ∧ 0 ≤ a ∧ a < n := by
  simp only [stretchD, accD, List.mem_flatMap, List.mem_range] at h
  obtain ⟨i, hi, hm⟩ := h
  unfold pieceD at hm
  rw [List.getElem?_eq_getElem hi] at hm
  simp only at hm
  split at hm
  · rename_i hd
    simp only [rangeI, List.mem_map, List.mem_range] at hm
    obtain ⟨j, hj, rfl⟩ := hm
    have h0 := hp es[i] (by simp)
    have hen : endOf es n i ≤ n := by
      unfold endOf; split
      · exact Int.min_le_left _ _
      · exact Int.le_refl _
    have hlt : es[i].pos + (j : Int) < endOf es n i := by omega
    refine ⟨?_, by omega, by omega⟩
    have late : ∀ y ∈ es.drop (i + 1), ¬ y.pos ≤ es[i].pos + (j : Int) := by
      intro y hy
      by_cases h5 : i + 1 < es.length
      · have he : endOf es n i ≤ es[i + 1].pos := by
          unfold endOf; rw [List.getElem?_eq_getElem h5]; exact Int.min_le_right _ _
        have hd2 : Rise (es.drop (i + 1)) := List.Pairwise.sublist (List.drop_sublist _ _) hr
        rw [List.drop_eq_getElem_cons h5] at hy hd2
        rcases List.mem_cons.1 hy with rfl | hy
        · omega
        · have := (rise_cons hd2).1 y hy
          omega
      · rw [List.drop_of_length_le (by omega)] at hy
        cases hy
    have hsplit : es.take i ++ es[i] :: es.drop (i + 1) = es := by
      rw [← List.drop_eq_getElem_cons hi, List.take_append_drop]
    have key : deadAt (es.take i ++ es[i] :: es.drop (i + 1)) (es[i].pos + (j : Int)) = true := by
      unfold deadAt
      rw [List.foldl_append, List.foldl_cons, if_pos (by omega), dead_late late]
      exact hd
    rw [hsplit] at key
    exact key
  · cases hm
end Go.AL
namespace Go.AL
open Go.Proofs Go.ChangeShapes Go.WideShapes Go.ChangeAt Go.RowKit
open Go.Proofs.YtobmoajkfbigkaaGreat
theorem rws_of {α : Type} {enc : α → List D} : ∀ {es : List (List D)}, (∀ r ∈ es, ∃ x, r = enc x) → ∃ xs, es = rws enc xs
  | [], _ => ⟨[], rfl⟩
  | r :: es, h => by
    obtain ⟨x, rfl⟩ := h r (by simp)
    obtain ⟨xs, rfl⟩ := rws_of (es := es) (fun r hr => h r (by simp [hr]))
    exact ⟨x :: xs, rfl⟩
theorem wt_int {P : Program} {n : Nat} {t : TypeId} {k : IntKind} {ds : List D} (hu : P.underlying t = some (.int k)) (h : WT P n t ds) : ∃ z, ds = [.int k z] ∧ (Lit.int k z).wf = true := by
  cases n with
  | zero => exact h.elim
  | succ n => unfold WT at h; rw [hu] at h; exact h
theorem wt_slice {P : Program} {n : Nat} {t e : TypeId} {ds : List D} (hu : P.underlying t = some (.slice e)) (h : WT P (n + 1) t ds) : ∃ es, ds = [.slice .no es] ∧ es.length * P.bytesOf e ≤ reachBytes ∧ ∀ r ∈ es, WT P n e r := by
  unfold WT at h; rw [hu] at h; exact h
theorem wt_struct {P : Program} {n : Nat} {t : TypeId} {fs : Array Field} {ds : List D} (hu : P.underlying t = some (.struct fs)) (h : WT P (n + 1) t ds) : WTs (WT P n) (fs.toList.map (·.type)) ds := by
  unfold WT at h; rw [hu] at h; exact h
theorem wf_u8 {z : Int} (h : (Lit.int .u8 z).wf = true) : ∃ t : Ty, z = t.val := by
  simp [Lit.wf, IntKind.min, IntKind.max, IntKind.signed, IntKind.bits] at h
  exact ⟨⟨z.toNat, by omega⟩, by simp; omega⟩
theorem reach_eq : reachBytes = 140737488351232 := rfl
theorem wt22 {n : Nat} {ds : List D} (h : WT Tryz.prog (n + 1) 93 ds) : ∃ ts : List Ty, ds = [.slice .no (rws eT ts)] ∧ ts.length ≤ 140737488351232 := by
  obtain ⟨es, rfl, hl, hr⟩ := wt_slice Tryz.underlying93 h
  obtain ⟨ts, rfl⟩ := rws_of (enc := eT) (fun r hr' => by
    obtain ⟨z, rfl, hz⟩ := wt_int Tryz.underlying81 (hr r hr')
    obtain ⟨t, rfl⟩ := wf_u8 hz
    exact ⟨t, rfl⟩)
  have hb : Tryz.prog.bytesOf 81 = 1 := by kernel_rfl
  rw [hb, za0] at hl
  exact ⟨ts, rfl, by rw [reach_eq] at hl; omega⟩
theorem wt25 {n : Nat} {ds : List D} (h : WT Tryz.prog (n + 2) 95 ds) : ∃ s : Sg, ds = eSg s ∧ s.ps.length ≤ 140737488351232 := by
  obtain ⟨d1, d2, rfl, h1, d3, d4, rfl, h2, h3⟩ := wt_struct Tryz.underlying95 h
  obtain ⟨ts, rfl, hl⟩ := wt22 h1
  obtain ⟨z, rfl, hz⟩ := wt_int Tryz.underlying81 h2
  obtain ⟨t, rfl⟩ := wf_u8 hz
  obtain rfl : d4 = [] := h3
  exact ⟨⟨ts, t⟩, rfl, hl⟩
theorem wt_str {P : Program} {n : Nat} {t : TypeId} {ds : List D} (hu : P.underlying t = some .string) (h : WT P n t ds) : ∃ s : ByteArray, ds = [.str s] := by
  cases n with
  | zero => exact h.elim
  | succ n => unfold WT at h; rw [hu] at h; obtain ⟨s, hs, _⟩ := h; exact ⟨s, hs⟩
theorem rws_of' {α : Type} {enc : α → List D} {p : α → Prop} : ∀ {es : List (List D)}, (∀ r ∈ es, ∃ x, r = enc x ∧ p x) → ∃ xs, es = rws enc xs ∧ ∀ x ∈ xs, p x
  | [], _ => ⟨[], rfl, by simp⟩
  | r :: es, h => by
    obtain ⟨x, rfl, hx⟩ := h r (by simp)
    obtain ⟨xs, rfl, hxs⟩ := rws_of' (es := es) (fun r hr => h r (by simp [hr]))
    exact ⟨x :: xs, rfl, by simpa using ⟨hx, hxs⟩⟩
theorem wt110 {n : Nat} {ds : List D} (h : WT Tryz.prog (n + 2) 157 ds) : ∃ f : Fd, ds = eF f := by
  obtain ⟨d1, d2, rfl, h1, d3, d4, rfl, h2, h3⟩ := wt_struct Tryz.underlying157 h
  obtain ⟨s, rfl⟩ := wt_str Tryz.underlying9 h1
  obtain ⟨z, rfl, hz⟩ := wt_int Tryz.underlying81 h2
  obtain ⟨t, rfl⟩ := wf_u8 hz
  obtain rfl : d4 = [] := h3
  exact ⟨⟨s, t⟩, rfl⟩
theorem wt105 {n : Nat} {ds : List D} (h : WT Tryz.prog (n + 3) 152 ds) : ∃ fs : List Fd, ds = [.slice .no (rws eF fs)] ∧ fs.length * 24 ≤ 140737488351232 := by
  obtain ⟨es, rfl, hl, hr⟩ := wt_slice Tryz.underlying152 h
  obtain ⟨ts, rfl⟩ := rws_of (enc := eF) (fun r hr' => wt110 (hr r hr'))
  have hb : Tryz.prog.bytesOf 157 = 24 := by kernel_rfl
  rw [hb, za0] at hl
  exact ⟨ts, rfl, by rw [reach_eq] at hl; omega⟩
theorem wt107 {n : Nat} {ds : List D} (h : WT Tryz.prog (n + 4) 154 ds) : ∃ c : Cl, ds = eC c ∧ c.fields.length * 24 ≤ 140737488351232 := by
  obtain ⟨d1, d2, rfl, h1, d3, d4, rfl, h2, d5, d6, rfl, h3, h4⟩ := wt_struct Tryz.underlying154 h
  obtain ⟨s, rfl⟩ := wt_str Tryz.underlying9 h1
  obtain ⟨z, rfl, hz⟩ := wt_int Tryz.underlying3 h2
  obtain ⟨fs, rfl, hl⟩ := wt105 h3
  obtain rfl : d6 = [] := h4
  exact ⟨⟨s, z, fs⟩, rfl, hl⟩
theorem wt52 {n : Nat} {ds : List D} (h : WT Tryz.prog (n + 5) 22 ds) : ∃ l : List Cl, ds = [.slice .no (rws eC l)] ∧ Wide l := by
  obtain ⟨es, rfl, hl, hr⟩ := wt_slice Tryz.underlying22 h
  obtain ⟨l, rfl, hw⟩ := rws_of' (enc := eC) (fun r hr' => wt107 (hr r hr'))
  have hb : Tryz.prog.bytesOf 154 = 48 := by kernel_rfl
  rw [hb, za0] at hl
  exact ⟨l, rfl, by rw [reach_eq] at hl; omega, hw⟩
theorem wt49 {n : Nat} {ds : List D} (h : WT Tryz.prog (n + 3) 23 ds) : ∃ l : List Sg, ds = [.slice .no (rws eSg l)] ∧ l.length * 32 ≤ 140737488351232 ∧ ∀ s ∈ l, s.ps.length ≤ 140737488351232 := by
  obtain ⟨es, rfl, hl, hr⟩ := wt_slice Tryz.underlying23 h
  obtain ⟨l, rfl, hw⟩ := rws_of' (enc := eSg) (p := fun s => s.ps.length ≤ 140737488351232) (fun r hr' => wt25 (hr r hr'))
  have hb : Tryz.prog.bytesOf 95 = 32 := by kernel_rfl
  rw [hb, za0] at hl
  exact ⟨l, rfl, by rw [reach_eq] at hl; omega, hw⟩
theorem wt57 {n : Nat} {ds : List D} (h : WT Tryz.prog (n + 6) 25 ds) : ∃ e : En, ds = eEn e ∧ WideE e := by
  obtain ⟨d1, d2, rfl, h1, d3, d4, rfl, h2, d5, d6, rfl, h3, h4⟩ := wt_struct Tryz.underlying25 h
  obtain ⟨l, rfl, hl⟩ := wt52 h1
  obtain ⟨s, rfl, hs⟩ := wt49 h2
  obtain ⟨z, rfl, hz⟩ := wt_int Tryz.underlying3 h3
  obtain rfl : d6 = [] := h4
  exact ⟨⟨l, s, z⟩, rfl, hl, hs⟩
end Go.AL
namespace Go.AL
open Go.Proofs Go.ChangeShapes Go.WideShapes Go.ChangeAt Go.RowKit
theorem wt26b {n : Nat} {ds : List D} (h : WT Tryz.prog (n + 1) 26 ds) : ∃ ts : List Ty, ds = [.slice .no (rws eT ts)] ∧ ts.length ≤ 140737488351232 := by
  obtain ⟨es, rfl, hl, hr⟩ := wt_slice Tryz.underlying26 h
  obtain ⟨ts, rfl⟩ := rws_of (enc := eT) (fun r hr' => by
    obtain ⟨z, rfl, hz⟩ := wt_int Tryz.underlying5 (hr r hr')
    obtain ⟨t, rfl⟩ := wf_u8 hz
    exact ⟨t, rfl⟩)
  have hb : Tryz.prog.bytesOf 5 = 1 := by kernel_rfl
  rw [hb, za0] at hl
  exact ⟨ts, rfl, by rw [reach_eq] at hl; omega⟩
theorem wt28 {n : Nat} {ds : List D} (h : WT Tryz.prog (n + 2) 28 ds) : ∃ c : Cd, ds = eCd c ∧ WideD c := by
  obtain ⟨d1, d2, rfl, h1, d3, d4, rfl, h2, d5, d6, rfl, h3, h4⟩ := wt_struct Tryz.underlying28 h
  obtain ⟨z, rfl, hz⟩ := wt_int Tryz.underlying3 h1
  obtain ⟨b, rfl, hb⟩ := wt26b h2
  obtain ⟨c, rfl, hc⟩ := wt26b h3
  obtain rfl : d6 = [] := h4
  exact ⟨⟨z, b, c⟩, rfl, hb, hc⟩
end Go.AL
