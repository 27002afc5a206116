import Derived.Test.YtobmoajkfbigkaaGreatHu
import Derived.Test.YtobmoajkfbigkaaGreatHt
import Derived.Test.YtobmoajkfbigkaaGreatHd
import Derived.Test.YtobmoajkfbigkaaGreatHp
set_option linter.unusedSimpArgs false
set_option linter.unusedVariables false
set_option maxRecDepth 100000
set_option maxHeartbeats 4000000
set_option linter.defProp false
namespace Go.AL
open Go.Proofs
def nx (b : List Ty) (p : Nat) (last : Int) (left n : Nat) : Ey × Bool × Nat × List D :=
  if left = 0 then (if p < b.length then (ey0, false, 3, eRd b p last 0 n p 3) else (ey0, false, 0, eRd b p last 0 n 0 0))
  else if (entD b (bt b 3) p last).2.2 ≠ 0 then (ey0, false, (entD b (bt b 3) p last).2.2, eRd b p last left n (entD b (bt b 3) p last).2.1 (entD b (bt b 3) p last).2.2)
  else ((entD b (bt b 3) p last).1, true, 0, eRd b (entD b (bt b 3) p last).2.1 (entD b (bt b 3) p last).1.pos (left - 1) n 0 0)
theorem nx_eq {b : List Ty} {r p : Nat} {last : Int} {left n : Nat} {d : D} {s : St} (h : nextR b r p last left n d s) :
    d = .tup [.agg (eEy (nx b p last left n).1), .bool (nx b p last left n).2.1, .int .i64 (nx b p last left n).2.2.1] ∧ s = ({} : St).set r (nx b p last left n).2.2.2 := by
  unfold nextR at h
  unfold nx
  split at h
  · rename_i h1; rw [if_pos h1]
    split at h
    · rename_i h2; rw [if_pos h2]; exact h
    · rename_i h2; rw [if_neg h2]; exact h
  · rename_i h1; rw [if_neg h1]
    split at h
    · rename_i h2; rw [if_pos h2]; exact h
    · rename_i h2; rw [if_neg h2]; exact h
def sB (b2 bc r b8 : Nat) (rd ct : List D) : St := (((({} : St).set b2 [.int .i64 0, .slice .nil []]).set bc [.ptr r 0]).set r rd).set b8 ct
def ctL (loc : Nat) (o : Option Nat) (es : List Ey) : List D := [.int .i64 loc, grD 28 o (rws eEy es)]
def sN (b2 bc r b8 : Nat) (loc : Nat) (o : Option Nat) (es : List Ey) (rd : List D) : St := grS 28 es.length o (sB b2 bc r b8 rd (ctL loc o es))
structure Ap (b2 bc r b8 : Nat) : Prop where
  h1 : bc ≠ b2
  h2 : r ≠ b2
  h3 : r ≠ bc
  h4 : b8 ≠ b2
  h5 : b8 ≠ bc
  h6 : b8 ≠ r
def offB (b2 bc r b8 : Nat) (o : Option Nat) : Prop := ∀ b, o = some b → b ≠ b2 ∧ b ≠ bc ∧ b ≠ r ∧ b ≠ b8
theorem sB_has {b2 bc r b8 x : Nat} {rd ct : List D} : (sB b2 bc r b8 rd ct).has x ↔ x = b2 ∨ x = bc ∨ x = r ∨ x = b8 := by
  unfold sB
  rw [set_has, set_has, set_has, set_has]
  have := St.not_has_nil x
  constructor
  · rintro (h | h | h | h | h)
    · exact .inr (.inr (.inr h))
    · exact .inr (.inr (.inl h))
    · exact .inr (.inl h)
    · exact .inl h
    · exact absurd h this
  · rintro (h | h | h | h)
    · exact .inr (.inr (.inr (.inl h)))
    · exact .inr (.inr (.inl h))
    · exact .inr (.inl h)
    · exact .inl h
theorem round94 {b2 bc r b8 loc : Nat} {o : Option Nat} {es : List Ey} {rd : List D} {e : Ey} {T : Env} (ha : Ap b2 bc r b8) (ho : offB b2 bc r b8 o) (hn : o = none → es = []) (hl : es.length ≤ 4096) (h8 : T 8 = .ptr b8 0) {J : St → Prop}
    (hJ : ∀ o' s', offB b2 bc r b8 o' → o' ≠ none → St.le (sN b2 bc r b8 loc o' (es ++ [e]) rd) s' → J s') :
    aopsD Tryz.prog 48 [] (asO.toList.map (plainO asO.toList)) (fun x T' s => x = .normal ∧ aopsD Tryz.prog 48 [] (bdO.toList.map (plainO bdO.toList)) (fun y T'' s' => y = .normal ∧ J s') T' s) (upd T 26 (.agg (eEy e))) (sN b2 bc r b8 loc o es rd) := by
  rw [asO_is, bdO_is]
  obtain ⟨S0, hS0⟩ : ∃ S0, sN b2 bc r b8 loc o es rd = S0 := ⟨_, rfl⟩
  have hb8 : S0.box b8 = some (ctL loc o es) := by rw [← hS0, sN, grS_boxa, sB, St.set_box, if_pos rfl]
  rw [hS0]
  simp -implicitDefEqProofs only [go_sem, h8, eEy_len, eEy_take, eEy_drop, anD, set_set, ey_zero]
  intro b9 hb9
  have n9 : b9 ≠ b8 := fun hh => hb9 (by rw [hh]; exact .inl (by simp [hb8]))
  have hc0 : (ctL loc o es).length = 2 := rfl
  have hc1 : (ctL loc o es)[1]? = some (grD 28 o (rws eEy es)) := rfl
  simp -implicitDefEqProofs only [go_sem, h8, eEy_len, eEy_take, eEy_drop, anD, set_set, ey_zero, hb8, n9, Ne.symm n9, hc0, hc1, gdD]
  have hbase : grN o (sB b2 bc r b8 rd (ctL loc o es)) := fun b hb hin => by have := ho b hb; have := sB_has.1 hin; omega
  have hle0 : St.le (grS 28 es.length o (sB b2 bc r b8 rd (ctL loc o es))) (S0.set b9 (eEy e)) := by
    rw [show grS 28 es.length o (sB b2 bc r b8 rd (ctL loc o es)) = S0 from hS0]; exact le_add hb9
  refine app_gr' Tryz.sli50 Tryz.sz86 Tryz.by86 Tryz.zero86 rfl (n := es.length) (m := 1) (base := sB b2 bc r b8 rd (ctL loc o es)) (by simp [rws]) rfl hle0 hbase (fun h => by rw [hn h]; rfl) (by simp [eEy_len]) (by omega) fun o' σ' hbox hle' hg hno => ?_
  have hb8' : σ'.box b8 = some (ctL loc o es) := by rw [hbox, St.set_box, if_neg (Ne.symm n9), hb8]
  simp -implicitDefEqProofs only [go_sem, h8, eEy_len, eEy_take, eEy_drop, anD, set_set, ey_zero, hb8', n9, Ne.symm n9, hc0, hc1]
  have hrow : rws eEy es ++ [eEy e] = rws eEy (es ++ [e]) := by simp [rws]
  refine hJ o' _ (fun b hb => ?_) (fun h => by have := hno h; omega) ?_
  · have h := hg b hb
    rw [sB_has] at h
    omega
  · have he : sN b2 bc r b8 loc o' (es ++ [e]) rd = (grS 28 (es.length + 1) o' (sB b2 bc r b8 rd (ctL loc o es))).set b8 (ctL loc o' (es ++ [e])) := by
      rw [grS_set, sN, sB, sB, set_set, List.length_append]; rfl
    rw [he]
    have := le_set (b := b8) (cs := ctL loc o' (es ++ [e])) hle'
    have hx : List.take 1 (ctL loc o es) ++ [grD 28 o' (rws eEy es ++ [List.take 28 (List.map frz (eEy e))])] ++ List.drop 2 (ctL loc o es) = ctL loc o' (es ++ [e]) := by
      rw [eEy_frz, eEy_take, hrow]; rfl
    rw [hx]; exact this
theorem yield_op {P : Program} {o : Oper} {a : Act} {w : World} {f x : Operand} {ts : Array TypeId} {l : Nat} {r : Loop} (hop : o.op = .call { callee := .value f, args := #[x], argTypes := ts }) (hf : a.eval f = .func (.yield l) #[] #[]) (hl : w.heap[l]? = some (.loop r)) {p : Nat} (hs : r.params = #[p]) :
    (execOp a.eval o).run P w = .ok (.round l r.fn (r.tmps.setIfInBounds p (a.eval x)) r.assign r.body) w := by
  have h := run_yield (P := P) (args := #[a.eval x]) hl (by simp [hs])
  rw [hs] at h
  simp only [execOp, hop, resolve, hf, Deferred.ofValue, invoke]
  simpa using h
def fin (b : List Ty) (left p : Nat) (last : Int) : Nat × Nat :=
  if (decP b (bt b 3) left p last).2.2 ≠ 0 then (decP b (bt b 3) left p last).2 else if (decP b (bt b 3) left p last).2.1 < b.length then ((decP b (bt b 3) left p last).2.1, 3) else (0, 0)
theorem nx_off {b : List Ty} {p : Nat} {last : Int} {left n : Nat} (hp : p ≤ b.length) (h : (nx b p last left n).2.1 = false) : esOf (decP b (bt b 3) left p last).1 = [] ∧ ∃ p' last' left', (nx b p last left n).2.2.2 = eRd b p' last' left' n (fin b left p last).1 (fin b left p last).2 := by
  unfold nx at h ⊢
  unfold fin
  cases left with
  | zero =>
    simp only [if_true, decP]
    by_cases hl : p < b.length
    · refine ⟨rfl, p, last, 0, ?_⟩
      simp [hl]
    · refine ⟨rfl, p, last, 0, ?_⟩
      simp [hl]
  | succ k =>
    rw [if_neg (Nat.succ_ne_zero k)] at h ⊢
    rw [decP]
    split
    · rename_i he
      refine ⟨rfl, p, last, k + 1, ?_⟩
      simp only [if_pos he]
    · rename_i he
      rw [if_neg he] at h
      cases h
theorem nx_on {b : List Ty} {p : Nat} {last : Int} {left n : Nat} (h : (nx b p last left n).2.1 = true) : ∃ e p' k, left = k + 1 ∧ p' ≤ b.length ∧ nx b p last left n = (e, true, 0, eRd b p' e.pos k n 0 0) ∧
    esOf (decP b (bt b 3) left p last).1 = e :: esOf (decP b (bt b 3) k p' e.pos).1 ∧ fin b left p last = fin b k p' e.pos := by
  unfold nx at h ⊢
  cases left with
  | zero =>
    simp only [if_true] at h
    split at h <;> cases h
  | succ k =>
    rw [if_neg (Nat.succ_ne_zero k)] at h ⊢
    split at h
    · cases h
    · rename_i he
      have h0 := Classical.not_not.1 he
      rw [if_neg he]
      refine ⟨_, _, k, rfl, (entD_place h0).2, rfl, ?_, ?_⟩
      · rw [decP, if_neg he]; rfl
      · simp only [fin]
        rw [decP, if_neg he]
noncomputable def o17 : Oper := (bO168.toList[5]?).getD default
noncomputable def o18 : Oper := (bO168.toList[6]?).getD default
noncomputable def o19 : Oper := (bO168.toList[7]?).getD default
theorem bO168_parts : bO168.toList = bO168.toList.take 5 ++ (o17 :: [o18, o19]) := by kernel_rfl
theorem o17_op : o17.op = .call { callee := .value (.tmp 15), args := #[.tmp 16], argTypes := #[86] } := by kernel_rfl
theorem o17_dst : o17.dst = some 17 := by kernel_rfl
theorem o17_guard (T : Env) : guardA bO168.toList T o17 = gq (T 14) false := by kernel_rfl
theorem nodefA : ∀ o ∈ asO.toList, ∀ c, o.op ≠ .defer c := by
  have h : (asO.toList.all fun o => match o.op with | .defer _ => false | _ => true) = true := by kernel_rfl
  intro o ho c hc
  have := List.all_eq_true.1 h o ho
  rw [hc] at this; cases this
theorem nodefB : ∀ o ∈ bdO.toList, ∀ c, o.op ≠ .defer c := by
  have h : (bdO.toList.all fun o => match o.op with | .defer _ => false | _ => true) = true := by kernel_rfl
  intro o ho c hc
  have := List.all_eq_true.1 h o ho
  rw [hc] at this; cases this
theorem body168 : Tryz.f168.body = some (.block 0 (.loop (.block 1 (.seq a168 (.seq b168 (.cond (.tmp 19) .ret .skip)))))) := by kernel_rfl
theorem res168 (tmps : Array Value) (w : World) : (results Tryz.f168 tmps).run Tryz.prog w = .ok (.tuple #[]) w := by
  have h : Tryz.f168.results = #[] := by kernel_rfl
  simp [results, h]
theorem sN_rd {b2 bc r b8 loc : Nat} {o : Option Nat} {es : List Ey} {rd rd' : List D} (ha : Ap b2 bc r b8) : (sN b2 bc r b8 loc o es rd).set r rd' = sN b2 bc r b8 loc o es rd' := by
  rw [sN, grS_set, sB, set_comm (Ne.symm ha.h6 |> Ne.symm), set_set]; rfl
theorem b168_strip : strip b168 = .reg false [] [oO 12 (.move (tT 4)), oO 13 (.unOp .not 4 (tT 12)), oO 14 (.move (tT 13)), oG 15 (.move (tT 0)) 14 false, oG 16 (.load 86 (tT 3)) 14 false, oG 17 (cF (tT 15) #[tT 16] #[86]) 14 false, oG 18 (.unOp .not 4 (tT 17)) 14 false, oO 19 (.pick (tT 14) (.const (.bool true)) (tT 18))] := by kernel_rfl
theorem pre168_is : (bO168.toList.take 5).map (plainO bO168.toList) = [oO 12 (.move (tT 4)), oO 13 (.unOp .not 4 (tT 12)), oO 14 (.move (tT 13)), oG 15 (.move (tT 0)) 14 false, oG 16 (.load 86 (tT 3)) 14 false] := by kernel_rfl
theorem suf168_is : [o18, o19].map (plainO bO168.toList) = [oG 18 (.unOp .not 4 (tT 17)) 14 false, oO 19 (.pick (tT 14) (.const (.bool true)) (tT 18))] := by kernel_rfl
def E168 (l bc : Nat) : Env := envL [(0, .func (.yield l) [] []), (1, .ptr bc 0)]
section
variable {b : List Ty} {b2 bc r b8 loc n : Nat} {l : Nat}
theorem next_part {o : Option Nat} {es : List Ey} {p left : Nat} {last : Int} (ha : Ap b2 bc r b8) (ho : offB b2 bc r b8 o) (hl : b.length ≤ 140737488355328) (h6 : 6 ≤ b.length) (hp : p ≤ b.length) (hleft : left ≤ 4096) :
    vcA Tryz.prog 20 (strip a168) (fun x T' s => x = .normal ∧ ∃ b3, ¬ (sN b2 bc r b8 loc o es (nx b p last left n).2.2.2).has b3 ∧ s = (sN b2 bc r b8 loc o es (nx b p last left n).2.2.2).set b3 (eEy (nx b p last left n).1) ∧
      T' 0 = .func (.yield l) [] [] ∧ T' 1 = .ptr bc 0 ∧ T' 3 = .ptr b3 0 ∧ T' 4 = .bool (nx b p last left n).2.1) (E168 l bc) (sN b2 bc r b8 loc o es (eRd b p last left n 0 0)) := by
  rw [a168_is]
  have hbc : (sN b2 bc r b8 loc o es (eRd b p last left n 0 0)).box bc = some [.ptr r 0] := by
    rw [sN, grS_boxa, sB, St.set_box, if_neg (Ne.symm ha.h5), St.set_box, if_neg (Ne.symm ha.h3), St.set_box, if_pos rfl]
  have hbr : (sN b2 bc r b8 loc o es (eRd b p last left n 0 0)).box r = some (eRd b p last left n 0 0) := by
    rw [sN, grS_boxa, sB, St.set_box, if_neg (Ne.symm ha.h6), St.set_box, if_pos rfl]
  have hbf : (sN b2 bc r b8 loc o es (eRd b p last left n 0 0)).buf r = none := by
    cases o with
    | none => rfl
    | some x =>
      have := ho x rfl
      simp only [sN, grS, St.setBuf, sB, St.set]
      rw [if_neg (by omega)]
  have e0 : E168 l bc 0 = .func (.yield l) [] [] := rfl
  have e1 : E168 l bc 1 = .ptr bc 0 := rfl
  simp -implicitDefEqProofs only [go_sem, e0, e1, hbc, eEy_len, eEy_take, eEy_drop, anD, set_set, ey_zero]
  refine callB_box (b := r) hbr hbf ((next169 b r p last left n hl (by omega) hp hleft).mono fun d s h => nx_eq h) ?_
  rw [sN_rd ha]
  generalize (nx b p last left n) = v at *
  obtain ⟨e, ok, err, rd⟩ := v
  simp -implicitDefEqProofs only [go_sem, e0, e1, eEy_len, eEy_take, eEy_drop, anD, set_set, ey_zero]
  intro b3 hb3
  exact ⟨b3, hb3, rfl, rfl⟩
theorem left_of {M : MMap} {w : World} {o : Option Nat} {es : List Ey} {p left bad err : Nat} {last : Int} (ha : Ap b2 bc r b8) (hi : Inv M (sN b2 bc r b8 loc o es (eRd b p last left n bad err)) w) :
    (match w.cell? ⟨r, 3, none⟩ with | some (.int _ z) => z.toNat | _ => 0) = left := by
  have hbr : (sN b2 bc r b8 loc o es (eRd b p last left n bad err)).box r = some (eRd b p last left n bad err) := by
    rw [sN, grS_boxa, sB, St.set_box, if_neg (Ne.symm ha.h6), St.set_box, if_pos rfl]
  obtain ⟨c, e, h1, h2, h3⟩ := box_at hi hbr
  obtain ⟨v, hv, hr⟩ := h2.get (i := 3) (d := .int .i64 left) rfl
  obtain rfl := hr
  rw [cell_of h1 (by simpa using hv)]
  simp
abbrev LD (M₀ : MMap) (σ₀ : St) (w₀ : World) (T : Env) (l dk : Nat) (fn : FuncId) (tm : Array Value) (M : MMap) (σ : St) (w : World) : Prop :=
  LInv 48 M₀ σ₀ w₀ T l dk fn tm #[26] (.region 6 asO false) (.block 1 (.region 7 bdO false)) M σ w
def I168 (b : List Ty) (b2 bc r b8 n l : Nat) (M₀ : MMap) (σ₀ : St) (w₀ : World) (T : Env) (dk : Nat) (fn : FuncId) (tm : Array Value) (ES : List Ey) (FN : Nat × Nat) (a : Act) (w : World) : Prop :=
  ∃ M o es p left last, LD M₀ σ₀ w₀ T l dk fn tm M (sN b2 bc r b8 (bt b 3) o es (eRd b p last left n 0 0)) w ∧ AInv 20 M (E168 l bc) (sN b2 bc r b8 (bt b 3) o es (eRd b p last left n 0 0)) a w ∧
    offB b2 bc r b8 o ∧ (o = none → es = []) ∧ p ≤ b.length ∧ es.length + left ≤ 4096 ∧ ES = es ++ esOf (decP b (bt b 3) left p last).1 ∧ FN = fin b left p last
def R168 (b : List Ty) (b2 bc r b8 n l : Nat) (M₀ : MMap) (σ₀ : St) (w₀ : World) (T : Env) (dk : Nat) (fn : FuncId) (tm : Array Value) (ES : List Ey) (FN : Nat × Nat) (e : Ending) (w : World) : Prop :=
  e = .returned (.tuple #[]) ∧ ∃ M o p left last, LD M₀ σ₀ w₀ T l dk fn tm M (sN b2 bc r b8 (bt b 3) o ES (eRd b p last left n FN.1 FN.2)) w
theorem round168 {M₀ : MMap} {σ₀ : St} {w₀ : World} {T : Env} {dk : Nat} {fn : FuncId} {tm : Array Value} {ES : List Ey} {FN : Nat × Nat} (ha : Ap b2 bc r b8) (hl : b.length ≤ 140737488355328) (h6 : 6 ≤ b.length) (h8 : T 8 = .ptr b8 0) (a : Act) (w : World)
    (hI : I168 b b2 bc r b8 n l M₀ σ₀ w₀ T dk fn tm ES FN a w) :
    (Code.block 1 (.seq a168 (.seq b168 (.cond (.tmp 19) .ret .skip)))).wpIn Fence.wide 0 Tryz.prog
      (Exit.then (fun a' w' => I168 b b2 bc r b8 n l M₀ σ₀ w₀ T dk fn tm ES FN a' w' ∧ (match w'.cell? ⟨r, 3, none⟩ with | some (.int _ z) => z.toNat | _ => 0) < (match w.cell? ⟨r, 3, none⟩ with | some (.int _ z) => z.toNat | _ => 0))
        (Exit.inBlock 0 (bodyPost Tryz.prog Tryz.f168 (R168 b b2 bc r b8 n l M₀ σ₀ w₀ T dk fn tm ES FN)))) a w := by
  obtain ⟨M, o, es, p, left, last, hL, hi, ho, hn, hp, hle, hES, hFN⟩ := hI
  have hN : decide (20 ≤ 1000000) = true := rfl
  rw [left_of ha hL.inv]
  refine wpIn_block (wpIn_seq (wpIn_wide.2 (Code.wp_mono ?_ (vcA_sound Tryz.follows_mixed (by decide) a168 (next_part (l := l) ha ho hl h6 hp (by omega)) M a w hi))))
  rintro e a1 w1 ⟨M1, T1, s1, x, hx, hi1, hk1, rfl, b3, hb3, rfl, t0, t1, t3, t4⟩
  obtain rfl := hx
  have hL1 := hL.keep hk1 hi1.inv
  show (Code.seq b168 (.cond (.tmp 19) .ret .skip)).wpIn Fence.wide 0 Tryz.prog _ a1 w1
  by_cases hok : (nx b p last left n).2.1 = true
  case neg =>
    have hf : (nx b p last left n).2.1 = false := by simpa using hok
    obtain ⟨hz, p', last', left', hrd⟩ := nx_off hp hf
    rw [hf] at t4
    rw [hrd] at hb3 hi1 hL1
    refine wpIn_wide.2 (Code.wp_mono ?_ (vcA_sound (N := 20) Tryz.follows_mixed (by decide) (.seq b168 (.cond (.tmp 19) .ret .skip)) (Q := fun x T' s => x = .ret ∧ s = (sN b2 bc r b8 (bt b 3) o es (eRd b p' last' left' n (fin b left p last).1 (fin b left p last).2)).set b3 (eEy (nx b p last left n).1)) ?_ M1 a1 w1 hi1))
    · rintro e a2 w2 ⟨M2, T2, s2, x, hx, hi2, hk2, rfl, rfl⟩
      obtain rfl := hx
      refine ⟨hi2.defers, _, res168 _ _, rfl, M2, o, p', left', last', ?_⟩
      have := (hL1.keep hk2 hi2.inv).less (le_add hb3)
      rw [hES, hFN, hz, List.append_nil]
      exact this
    · show vcA Tryz.prog 20 (.seq (strip b168) (.cond (.tmp 19) .ret .skip)) _ T1 _
      rw [b168_strip]
      simp -implicitDefEqProofs only [go_sem, t0, t1, t3, t4]
  obtain ⟨e, p', k, hk, hpb, hnx, hES', hFN'⟩ := nx_on hok
  rw [hnx] at hb3 hi1 hL1 t4
  simp only at hb3 hi1 hL1 t4
  have hsub : St.le (sN b2 bc r b8 (bt b 3) o es (eRd b p' e.pos k n 0 0)) ((sN b2 bc r b8 (bt b 3) o es (eRd b p' e.pos k n 0 0)).set b3 (eEy e)) := le_add hb3
  refine wpIn_seq ?_
  rw [b168_is]
  refine wpIn_region_list ?_
  rw [bO168_parts]
  refine list_wide_cut (Q := Post 20 M1 ((sN b2 bc r b8 (bt b 3) o es (eRd b p' e.pos k n 0 0)).set b3 (eEy e)) w1 fun x T' s => x = .normal ∧ s = (sN b2 bc r b8 (bt b 3) o es (eRd b p' e.pos k n 0 0)).set b3 (eEy e) ∧ T' 0 = .func (.yield l) [] [] ∧ T' 1 = .ptr bc 0 ∧ T' 14 = .bool false ∧ T' 15 = .func (.yield l) [] [] ∧ T' 16 = .agg (eEy e)) noOut ?_ ?_ _ a1 w1 ?_
  · rintro e' a' w' hne ⟨M', T', s', x, hx, _, _, rfl, _⟩
    exact absurd hx hne
  · rintro a2 w2 ⟨M2, T2, s2, x, hx, hi2, hk2, -, rfl, u0, u1, u14, u15, u16⟩
    have hL2 := hL1.keep hk2 hi2.inv
    have hw : Region.wanted o17 (yielded bO168 a2.tmps) = true := guardA_sound (by rw [o17_guard, u14]; rfl) hi2
    have hf15 : a2.eval (.tmp 15) = .func (.yield l) #[] #[] := by
      have := hi2.env 15
      rw [u15] at this
      obtain ⟨vf, vc, h1, h2, h3⟩ := this
      have e2 : vf = #[] := by simpa [RepAll] using h2
      have e3 : vc = #[] := by simpa [RepAll] using h3
      subst e2; subst e3; exact h1
    have hv : Rep M2 w2 (.agg (eEy e)) (a2.eval (.tmp 16)) := by have := hi2.env 16; rw [u16] at this; exact this
    rw [wpListIn, if_pos hw]
    refine ⟨fun f _ => trivial, ?_⟩
    rw [show Fence.wide.round = none from rfl, show Oper.semAt none a2.eval o17 = execOp a2.eval o17 from rfl, yield_op o17_op hf15 hL2.lrec rfl, Oper.uponIn_round]
    refine ⟨fun hd => absurd hd (by simp [Fence.wide]), ?_⟩
    refine (round_sound (n := 0 - 1) (P := Tryz.prog) (hN := by decide) (hL2.less hsub) (p := 26) (by decide) hv nodefA nodefB
      (round94 (J := fun s' => ∃ o', offB b2 bc r b8 o' ∧ o' ≠ none ∧ St.le (sN b2 bc r b8 (bt b 3) o' (es ++ [e]) (eRd b p' e.pos k n 0 0)) s') ha ho hn (by omega) h8 fun o' s' h1 h2 h3 => ⟨o', h1, h2, h3⟩)).mono ?_
    rintro e' w3 ⟨rfl, M3, s3, hL3, hK3, o', ho', hno', hle3⟩
    have hL3' := hL3.less hle3
    have hi3 : AInv 20 M3 (upd T2 17 (.bool true)) (sN b2 bc r b8 (bt b 3) o' (es ++ [e]) (eRd b p' e.pos k n 0 0)) (a2.put o17.dst (.bool true)) w3 := by
      rw [o17_dst]
      exact (hi2.keep hK3 hL3'.inv).put (dst := some 17) (d := .bool true) (v := .bool true) (fun t ht => by cases ht; decide) rfl
    show wpListIn Fence.wide 0 Tryz.prog bO168 _ ([o18, o19] ++ []) _ _
    refine list_wide_cut (Q := Post 20 M3 (sN b2 bc r b8 (bt b 3) o' (es ++ [e]) (eRd b p' e.pos k n 0 0)) w3 fun x T' s => x = .normal ∧ s = sN b2 bc r b8 (bt b 3) o' (es ++ [e]) (eRd b p' e.pos k n 0 0) ∧ T' 0 = .func (.yield l) [] [] ∧ T' 1 = .ptr bc 0 ∧ T' 19 = .bool false) noOut ?_ ?_ _ _ w3 ?_
    · rintro e' a' w' hne ⟨M', T', s', x, hx, _, _, rfl, _⟩
      exact absurd hx hne
    · rintro a4 w4 ⟨M4, T4, s4, x, hx, hi4, hk4, -, rfl, v0, v1, v19⟩
      have hc : a4.eval (.tmp 19) = .bool false := by have := hi4.env 19; rw [v19] at this; exact this
      refine wpIn_cond_false hc (wpIn_skip ?_)
      have hL4 := hL3'.keep hk4 hi4.inv
      refine ⟨⟨M4, o', es ++ [e], p', k, e.pos, hL4, hi4.forget ?_ (St.le.refl _), ho', fun h => absurd h hno', hpb, by simp; omega, by rw [hES, hES', List.append_assoc]; rfl, hFN.trans hFN'⟩, ?_⟩
      · refine envL_le fun q hq => ?_
        simp only [List.mem_cons, List.not_mem_nil, or_false] at hq
        rcases hq with rfl | rfl
        · exact v0
        · exact v1
      · rw [left_of ha hL4.inv]; omega
    · refine aopsD_plain (M := M3) (by decide) [o18, o19] ?_ hi3 hi3.inv.dom (KeepF.refl _ _ _)
      rw [suf168_is]
      simp -implicitDefEqProofs only [go_sem, u0, u1, u14]
  · refine aopsD_plain (M := M1) (by decide) (bO168.toList.take 5) ?_ hi1 hi1.inv.dom (KeepF.refl _ _ _)
    rw [pre168_is]
    simp -implicitDefEqProofs only [go_sem, t0, t1, t3, t4, eEy_len, eEy_take, eEy_drop]
theorem all168 {M₀ : MMap} {σ₀ : St} {w₀ : World} {T : Env} {dk : Nat} {fn : FuncId} {tm : Array Value} {M : MMap} {w : World} (ha : Ap b2 bc r b8) (hl : b.length ≤ 140737488355328) (h6 : 6 ≤ b.length) (h8 : T 8 = .ptr b8 0) {left : Nat} (hle : left ≤ 4096)
    (hL : LD M₀ σ₀ w₀ T l dk fn tm M (sN b2 bc r b8 (bt b 3) none [] (eRd b 6 (-1) left n 0 0)) w) :
    Calls Tryz.prog 168 #[.func (.yield l) #[] #[], .pointer (some ⟨bc, 0, none⟩)] w (R168 b b2 bc r b8 n l M₀ σ₀ w₀ T dk fn tm (esOf (decP b (bt b 3) left 6 (-1)).1) (fin b left 6 (-1))) := by
  refine calls_of_wp Tryz.func168 body168 ?_
  obtain ⟨tms, htms⟩ : ∃ tms, (#[.func (.yield l) #[] #[], .pointer (some ⟨bc, 0, none⟩)] ++ Array.replicate (Tryz.f168.ntmps - 2) undef : Array Value) = tms := ⟨_, rfl⟩
  have hsz : tms.size = 20 := by rw [← htms, Tryz.ntmps168]; rfl
  have hra : RepAll M w [.func (.yield l) [] [], .ptr bc 0] [.func (.yield l) #[] #[], .pointer (some ⟨bc, 0, none⟩)] := ⟨_, _, rfl, ⟨_, _, rfl, rfl, rfl⟩, _, _, rfl, rfl, rfl⟩
  have hi0 : AInv 20 M (envOf [.func (.yield l) [] [], .ptr bc 0]) (sN b2 bc r b8 (bt b 3) none [] (eRd b 6 (-1) left n 0 0)) { tmps := tms, defers := [] } w :=
    ⟨hL.inv, hsz, rfl, fun t => by rw [← htms]; exact envOf_rep hra _ t⟩
  have hie : Env.le (E168 l bc) (envOf [.func (.yield l) [] [], .ptr bc 0]) := envL_le fun q hq => by
    simp only [List.mem_cons, List.not_mem_nil, or_false] at hq
    rcases hq with rfl | rfl <;> rfl
  refine Code.wp_mono (Q := Exit.inBlock 0 (bodyPost Tryz.prog Tryz.f168 (R168 b b2 bc r b8 n l M₀ σ₀ w₀ T dk fn tm (esOf (decP b (bt b 3) left 6 (-1)).1) (fin b left 6 (-1))))) ?_ ?_ |> wp_block
  · exact fun e a w h => h
  show (Code.loop _).wp Tryz.prog _ { tmps := (#[.func (.yield l) #[] #[], .pointer (some ⟨bc, 0, none⟩)] ++ Array.replicate (Tryz.f168.ntmps - 2) undef : Array Value), defers := [] } w
  rw [htms]
  refine (wpIn_wide (n := 0)).1 (wpIn_loop (I168 b b2 bc r b8 n l M₀ σ₀ w₀ T dk fn tm (esOf (decP b (bt b 3) left 6 (-1)).1) (fin b left 6 (-1))) (fun _ w => match w.cell? ⟨r, 3, none⟩ with | some (.int _ z) => z.toNat | _ => 0) ?_ fun a w hI => round168 ha hl h6 h8 a w hI)
  exact ⟨M, none, [], 6, left, -1, hL, hi0.forget hie (St.le.refl _), fun b hb => (by cases hb), fun _ => rfl, h6, by simpa using hle, rfl, rfl⟩
end
noncomputable def p94 (i : Nat) : Code := match i with
  | 0 => sL k94
  | 1 => sL (sR k94)
  | 2 => sL (sR (sR k94))
  | 3 => sL (sR (sR (sR k94)))
  | 4 => sL (sL (sR (sR (sR (sR k94)))))
  | 5 => sL (sR (sR (sR (sR (sR k94)))))
  | _ => sL (sR (sR (sR (sR (sR (sR k94))))))
theorem body94 : Tryz.f94.body = some (chainC [p94 0, p94 1, p94 2, p94 3] (.seq (.seq (p94 4) (.block 0 (.rangeFunc (.tmp 25) #[26] (.region 6 asO false) (.block 1 (.region 7 bdO false))))) (chainC [p94 5, p94 6] .ret))) := by kernel_rfl
theorem pre94 : chainA [p94 0, p94 1, p94 2, p94 3] = .seq (acL c94) (.seq (acL (acR c94)) (.seq (acL (acR (acR c94))) (acL (acR (acR (acR c94)))))) := by kernel_rfl
theorem mid94 : chainA [p94 4] = acL (acL (acR (acR (acR (acR c94))))) := by kernel_rfl
theorem suf94 : chainA [p94 5, p94 6] = .seq (acL (acR (acR (acR (acR (acR c94)))))) (acL (acR (acR (acR (acR (acR (acR c94))))))) := by kernel_rfl
theorem rs94 : Tryz.f94.results.toList = [.cell 2 52, .tmp 3, .tmp 4] := by kernel_rfl
theorem ahead94 (b : List Ty) (o : Own) (hl : b.length ≤ 140737488355328) (T : Env) (hT : ∀ t, T t = envOf [.slice o (rws eT b)] t) : vcA Tryz.prog 48 (chainA [p94 0, p94 1, p94 2, p94 3])
    (fun x T' s => (x = .ret ∧ (headD b).2 ≠ 0 ∧ ∃ d, resA Tryz.prog T' s Tryz.f94.results.toList = some d ∧ DLe d (.tup [.agg (eCt ct0), .int .i64 (headD b).1, .int .i64 (headD b).2])) ∨
      (x = .normal ∧ (headD b).2 = 0 ∧ ∃ b2 r b8, r ≠ b2 ∧ b8 ≠ b2 ∧ b8 ≠ r ∧ s = ((({} : St).set b2 [.int .i64 0, .slice .nil []]).set r (eRd b 6 (-1) (word2 b 4) (word2 b 4) 0 0)).set b8 [.int .i64 (bt b 3), .slice .nil []] ∧ T' 2 = .ptr b2 0 ∧ T' 5 = .ptr r 0 ∧ T' 8 = .ptr b8 0)) T {} := by
  rw [pre94, rs94]
  simp -implicitDefEqProofs only [go_sem, c94, acL, acR, hT, eRd_len, rd_0, rd_7, nilc_p, rws_one eT_len, gdD, set_set, resM_cell]
  intro b2
  refine callB_under (s := {}) [.bx b2 [.int .i64 0, .slice .nil []]] ⟨St.not_has_nil _, trivial⟩ (((open134 b hl).args (.cons (DLe.slice _ _) .nil)).xcall (Rp := fun _ _ => False)) (fun d s' hR hoff => ?_) fun d s' h => h.elim
  have hb2 : ¬ s'.has b2 := hoff.1
  clear hoff
  by_cases h0 : (headD b).2 = 0
  case neg =>
    rw [openR_no h0] at hR
    obtain ⟨rfl, rfl⟩ := hR
    have q0 : (((headD b).2 : Int) = 0) = False := by simp; omega
    have hp : putL ({} : St) [.bx b2 [.int .i64 0, .slice .nil []]] = ({} : St).set b2 [.int .i64 0, .slice .nil []] := rfl
    simp -implicitDefEqProofs only [go_sem, hp, hT, eRd_len, rd_0, rd_7, nilc_p, rws_one eT_len, gdD, set_set, resM_cell, q0, h0]
    exact .inl ⟨_, rfl, DLe.tup (.cons (DLe.agg (.cons (.refl _) (.cons (DLe.slice _ _) .nil))) (.refl _))⟩
  rw [openR_yes h0] at hR
  obtain ⟨r, rfl, rfl⟩ := hR
  have hrb : r ≠ b2 := fun h => hb2 (by rw [set_has]; exact .inl h.symm)
  have hp : putL (({} : St).set r (eRd b 6 (-1) (word2 b 4) (word2 b 4) 0 0)) [.bx b2 [.int .i64 0, .slice .nil []]] = (({} : St).set b2 [.int .i64 0, .slice .nil []]).set r (eRd b 6 (-1) (word2 b 4) (word2 b 4) 0 0) := by
    show (({} : St).set r _).set b2 _ = _
    rw [set_comm hrb]
  simp -implicitDefEqProofs only [go_sem, hp, hT, eRd_len, rd_0, rd_7, nilc_p, rws_one eT_len, gdD, set_set, resM_cell, h0, Int.ofNat_zero]
  refine callB_box (b := r) (by simp [St.set]) (by simp [St.set]) (locals135 b r 6 (-1) (word2 b 4) (word2 b 4) 0 0 (by have := headD_zero h0; omega)) ?_
  simp -implicitDefEqProofs only [go_sem, hT, eRd_len, rd_0, rd_7, nilc_p, rws_one eT_len, gdD, set_set, resM_cell, h0, Int.ofNat_zero]
  intro b8 h1 h2
  intro h3 h4
  exact .inr ⟨b2, r, b8, hrb, h3, h1, rfl, rfl, rfl, rfl⟩
theorem sN_nil {b2 bc r b8 loc : Nat} {rd : List D} : sN b2 bc r b8 loc none [] rd = (((({} : St).set b2 [.int .i64 0, .slice .nil []]).set bc [.ptr r 0]).set r rd).set b8 [.int .i64 loc, .slice .nil []] := rfl
theorem mid94_ok [DSt] (b : List Ty) {b2 r b8 left : Nat} {T : Env} (h2 : r ≠ b2) (h4 : b8 ≠ b2) (h6 : b8 ≠ r) (t2 : T 2 = .ptr b2 0) (t5 : T 5 = .ptr r 0) (t8 : T 8 = .ptr b8 0) :
    vcA Tryz.prog 48 (chainA [p94 4]) (fun x T' s => x = .normal ∧ ∃ bc, Ap b2 bc r b8 ∧ s = sN b2 bc r b8 (bt b 3) none [] (eRd b 6 (-1) left left 0 0) ∧ T' 2 = .ptr b2 0 ∧ T' 5 = .ptr r 0 ∧ T' 8 = .ptr b8 0 ∧ T' 25 = .func (.func 168) [] [.ptr bc 0])
      T (((({} : St).set b2 [.int .i64 0, .slice .nil []]).set r (eRd b 6 (-1) left left 0 0)).set b8 [.int .i64 (bt b 3), .slice .nil []]) := by
  rw [mid94]
  simp -implicitDefEqProofs only [go_sem, c94, acL, acR, t2, t5, t8]
  refine callB_under (s := {}) [.bx b2 [.int .i64 0, .slice .nil []], .bx r (eRd b 6 (-1) left left 0 0), .bx b8 [.int .i64 (bt b 3), .slice .nil []]] ⟨St.not_has_nil _, St.not_has_nil _, St.not_has_nil _, trivial⟩ ((all136 r).xcall (Rp := fun _ _ => False)) (fun d s' hR hoff => ?_) fun d s' h => h.elim
  obtain ⟨bc, rfl, rfl⟩ := hR
  obtain ⟨o1, o2, o3, -⟩ := hoff
  have n1 : bc ≠ b2 := fun h => o1 (by rw [set_has]; exact .inl h.symm)
  have n2 : r ≠ bc := fun h => o2 (by rw [set_has]; exact .inl h)
  have n3 : b8 ≠ bc := fun h => o3 (by rw [set_has]; exact .inl h)
  have hp : putL (({} : St).set bc [.ptr r 0]) [.bx b2 [.int .i64 0, .slice .nil []], .bx r (eRd b 6 (-1) left left 0 0), .bx b8 [.int .i64 (bt b 3), .slice .nil []]] = sN b2 bc r b8 (bt b 3) none [] (eRd b 6 (-1) left left 0 0) := by
    rw [sN_nil]
    show (((({} : St).set bc _).set b2 _).set r _).set b8 _ = _
    rw [set_comm n1]
  rw [hp]
  simp -implicitDefEqProofs only [go_sem, t2, t5, t8]
  exact ⟨bc, ⟨n1, h2, n2, h4, n3, h6⟩, rfl, rfl⟩
theorem after94_ok [DSt] (b : List Ty) {b2 bc r b8 p left n bad err : Nat} {last : Int} {o : Option Nat} {ES : List Ey} {T : Env} (ha : Ap b2 bc r b8) (t2 : T 2 = .ptr b2 0) (t5 : T 5 = .ptr r 0) (t8 : T 8 = .ptr b8 0) :
    vcA Tryz.prog 48 (chainA [p94 5, p94 6]) (fun x T' s => (x = .ret ∨ x = .normal) ∧ ∃ d, resA Tryz.prog T' s Tryz.f94.results.toList = some d ∧
      DLe d (if err ≠ 0 then .tup [.agg (eCt ct0), .int .i64 bad, .int .i64 err] else .tup [.agg (eCt ⟨bt b 3, ES⟩), .int .i64 0, .int .i64 0]))
      T (sN b2 bc r b8 (bt b 3) o ES (eRd b p last left n bad err)) := by
  obtain ⟨S0, hS0⟩ : ∃ S0, sN b2 bc r b8 (bt b 3) o ES (eRd b p last left n bad err) = S0 := ⟨_, rfl⟩
  have hbr : S0.box r = some (eRd b p last left n bad err) := by
    rw [← hS0, sN, grS_boxa, sB, St.set_box, if_neg (Ne.symm ha.h6), St.set_box, if_pos rfl]
  have hb2 : S0.box b2 = some [.int .i64 0, .slice .nil []] := by
    rw [← hS0, sN, grS_boxa, sB, St.set_box, if_neg (Ne.symm ha.h4), St.set_box, if_neg (Ne.symm ha.h2), St.set_box, if_neg (Ne.symm ha.h1), St.set_box, if_pos rfl]
  have hb8 : S0.box b8 = some [.int .i64 (bt b 3), grD 28 o (rws eEy ES)] := by rw [← hS0, sN, grS_boxa, sB, St.set_box, if_pos rfl]; rfl
  rw [hS0, suf94, rs94]
  by_cases h0 : err = 0
  case neg =>
    have q0 : ((err : Int) = 0) = False := by simp; omega
    rw [if_pos h0]
    simp -implicitDefEqProofs only [go_sem, c94, acL, acR, t2, t5, t8, hbr, hb2, hb8, q0, eRd_len, rd_5, rd_6, nilc_p, rws_one eT_len, gdD, set_set, resM_cell]
    exact ⟨fun x hx => by simp [hx, hbr], Ne.symm ha.h2, _, rfl, DLe.tup (.cons (DLe.agg (.cons (.refl _) (.cons (DLe.slice _ _) .nil))) (.refl _))⟩
  rw [if_neg (by simp [h0])]
  subst h0
  simp -implicitDefEqProofs only [go_sem, c94, acL, acR, t2, t5, t8, hbr, hb2, hb8, Int.ofNat_zero, eRd_len, rd_5, rd_6, nilc_p, rws_one eT_len, gdD, set_set, resM_cell]
  exact ⟨_, rfl, DLe.tup (.cons (DLe.agg (.cons (.refl _) (.cons grD_le .nil))) (.refl _))⟩
theorem decC_fin {b : List Ty} (h : (headD b).2 = 0) : decC b = if (fin b (word2 b 4) 6 (-1)).2 ≠ 0 then (ct0, fin b (word2 b 4) 6 (-1)) else (⟨bt b 3, esOf (decP b (bt b 3) (word2 b 4) 6 (-1)).1⟩, 0, 0) := by
  unfold decC toldD fin
  rw [if_neg (show ¬ (headD b).2 ≠ 0 by simp [h])]
  by_cases h1 : (decP b (bt b 3) (word2 b 4) 6 (-1)).2.2 ≠ 0
  · simp only [if_pos h1]
  · simp only [if_neg h1]
    by_cases h2 : (decP b (bt b 3) (word2 b 4) 6 (-1)).2.1 < b.length
    · simp only [if_pos h2]
    · simp only [if_neg h2]
theorem leaves_mark {P : Program} {fn : Func} {N n dk : Nat} {M : MMap} {T : Env} {σ : St} {a : Act} {w : World} {d d' : D} {R : Ending → World → Prop} [DSt] (hi : AInv N M T σ a w) (hd : a.defers = [{ target := .collected dk, args := #[] }]) (hk : w.heap[dk]? = some (.deferred (some []))) (hM : M dk = some .box) (hs : ¬ σ.has dk)
    (hr : resA P T σ fn.results.toList = some d) (hle : DLe d d') (hR : ∀ v, Rep M (w.putObj dk (.deferred none)) d' v → R (.returned v) (w.putObj dk (.deferred none))) : LeavesInM Fence.wide n P fn a.tmps R a.defers .returning w := by
  rw [hd]
  refine ⟨by simp, .inl ⟨dk, _, rfl, run_takeDeferred hk, ?_⟩⟩
  have hi' := ainv_put (o := .deferred none) hi hM hs
  obtain ⟨v, hv, hrep⟩ := resA_sound hr hi'
  exact ⟨v, hv, hR v (hle _ _ _ hrep)⟩
theorem decode94 (b : List Ty) (o : Own) (hl : b.length ≤ 140737488355328) : PCall Tryz.prog 94 [.slice o (rws eT b)] (.tup [.agg (eCt (decC b).1), .int .i64 (decC b).2.1, .int .i64 (decC b).2.2]) := by
  refine ⟨⟨Tryz.f94, Tryz.func94, rfl, rfl⟩, fun M w vs hi hv => ?_⟩
  refine (callsIn_wide (n := 0)).1 (callsIn_of_wp_marks Tryz.func94 body94 trivial ?_)
  obtain ⟨tms, htms⟩ : ∃ tms, (vs.toArray ++ Array.replicate (Tryz.f94.ntmps - vs.toArray.size) undef : Array Value) = tms := ⟨_, rfl⟩
  have hlen : vs.length = 1 := by have := hv.length; simpa using this.symm
  have hsz : tms.size = 48 := by rw [← htms, Tryz.ntmps94]; simp [hlen]
  have hi0 : AInv 48 M (envOf [.slice o (rws eT b)]) {} { tmps := tms, defers := [] } w := ⟨hi, hsz, rfl, fun t => by rw [← htms]; exact envOf_rep hv _ t⟩
  rw [htms]
  refine wpIn_chain Tryz.follows_mixed (by decide) hi.dom ?hy1 ?hx1 _ (ahead94 b o hl _ fun t => rfl) hi0 (KeepF.refl _ _ _)
  case hx1 =>
    rintro e a1 w1 hne ⟨M1, T1, s1, x, hx, hi1, hk1, ⟨rfl, h0, d, hd, hle⟩ | ⟨rfl, -⟩⟩
    · obtain rfl := hx
      obtain ⟨v, hv1, hr1⟩ := resA_sound hd hi1
      show LeavesInM Fence.wide 0 Tryz.prog Tryz.f94 a1.tmps _ a1.defers .returning w1
      rw [show a1.defers = [] from hi1.defers]
      refine ⟨v, hv1, M1, {}, .ret _, ⟨v, rfl, ?_⟩, hi1.inv.less (St.le.nil _), hk1.less (St.le.nil _), rfl, rfl⟩
      have hz : decC b = (ct0, headD b) := by unfold decC toldD; simp [h0]
      rw [hz]; exact hle _ _ _ hr1
    · exact absurd hx hne
  rintro a1 w1 ⟨M1, T1, s1, x, hx, hi1, hk1, -, ⟨hh, -⟩ | ⟨-, h0, b2, r, b8, h2, h4, h6, rfl, t2, t5, t8⟩⟩
  · cases hh; exact absurd hx (by simp [RepX])
  obtain ⟨hb6, hloc, hcnt⟩ := headD_zero h0
  refine wpIn_seq (wpIn_chain Tryz.follows_mixed (by decide) hi.dom ?hy2 ?hx2 _ (mid94_ok b h2 h4 h6 t2 t5 t8) hi1 hk1)
  case hx2 =>
    rintro e a2 w2 hne ⟨M2, T2, s2, x, hx, hi2, hk2, rfl, -⟩
    exact absurd hx hne
  rintro a2 w2 ⟨M2, T2, s2, x, hx, hi2, hk2, -, -, bc, ha, rfl, u2, u5, u8, u25⟩
  refine wpIn_block (wpIn_rangeFunc fun fn _ => ?_)
  have hg : a2.eval (.tmp 25) = .func (.func 168) #[] #[.pointer (some ⟨bc, 0, none⟩)] := by
    have := hi2.env 25
    rw [u25] at this
    obtain ⟨vf, vc, e1, e2, e3⟩ := this
    obtain ⟨v, vs', e4, e5, e6⟩ := e3
    have e7 : vf = #[] := by simpa [RepAll] using e2
    obtain rfl := e5
    obtain rfl := e6
    have e8 : vc = #[.pointer (some ⟨bc, 0, none⟩)] := by rw [← Array.toList_inj]; exact e4
    rw [e7, e8] at e1; exact e1
  obtain ⟨W1, hW1⟩ : ∃ W1, ((w2.alloc (.deferred (some []))).alloc (.loop { state := .ready, pending := none, fn, tmps := a2.tmps, params := #[26], assign := .region 6 asO false, body := .block 1 (.region 7 bdO false), defers := w2.heap.size })) = W1 := ⟨_, rfl⟩
  have hen : (Instr.enterLoop fn a2.tmps #[26] (.region 6 asO false) (.block 1 (.region 7 bdO false)) Fence.wide.round).run Tryz.prog w2 = .ok (w2.heap.size + 1, [{ target := .collected w2.heap.size, args := #[] }]) W1 := by
    rw [← hW1]; exact run_enterLoop_outer fn a2.tmps _ _ _
  have hres : (resolve a2.eval (rangeCall (.tmp 25) (w2.heap.size + 1)) 0).run Tryz.prog W1 = .ok { target := .fn (.func 168) #[.pointer (some ⟨bc, 0, none⟩)], args := #[.func (.yield (w2.heap.size + 1)) #[] #[]] } W1 := by
    simp [resolve, hg, Deferred.ofValue, eval_const]
  have hinv : (invoke (.fn (.func 168) #[.pointer (some ⟨bc, 0, none⟩)]) #[.func (.yield (w2.heap.size + 1)) #[] #[]]).run Tryz.prog W1 = .ok (.enter 168 #[.func (.yield (w2.heap.size + 1)) #[] #[], .pointer (some ⟨bc, 0, none⟩)]) W1 := by
    exact callFunc_run ⟨Tryz.f168, Tryz.func168, rfl, rfl⟩ _ _
  refine ⟨w2.heap.size + 1, [{ target := .collected w2.heap.size, args := #[] }], W1, _, W1, 168, _, W1, hen, hres, fun _ _ => trivial, hinv, fun h => absurd h (by simp [Fence.wide]), callsIn_wide.2 ?_⟩
  obtain ⟨i1, k1⟩ := inv_rec hi2.inv (.deferred (some []))
  obtain ⟨i2, k2⟩ := inv_rec i1 (.loop { state := .ready, pending := none, fn, tmps := a2.tmps, params := #[26], assign := .region 6 asO false, body := .block 1 (.region 7 bdO false), defers := w2.heap.size })
  have hs1 : (w2.alloc (.deferred (some []))).heap.size = w2.heap.size + 1 := heap_alloc_size _ _
  rw [hs1, hW1] at i2 k2
  have k12 := k1.trans hi2.inv.dom k2
  have hlt : ∀ x, (sN b2 bc r b8 (bt b 3) none [] (eRd b 6 (-1) (word2 b 4) (word2 b 4) 0 0)).has x → x < w2.heap.size := fun x hx => hi2.inv.dom x (hi2.inv.lt hx)
  have hL : LD M2 (sN b2 bc r b8 (bt b 3) none [] (eRd b 6 (-1) (word2 b 4) (word2 b 4) 0 0)) w2 T2 (w2.heap.size + 1) w2.heap.size fn a2.tmps (updM (updM M2 w2.heap.size) (w2.heap.size + 1)) (sN b2 bc r b8 (bt b 3) none [] (eRd b 6 (-1) (word2 b 4) (word2 b 4) 0 0)) W1 :=
    { inv := i2, ml := by simp [updM], md := by simp [updM], nl := fun hx => by have := hlt _ hx; omega, nd := fun hx => by have := hlt _ hx; omega, ne := by omega, hl := by omega, hdk := by omega, dom₀ := hi2.inv.dom, old := k12
      lrec := by rw [← hW1, ← hs1]; exact World.alloc_heap_new _ _
      dfr := by rw [← hW1, heap_alloc_old (by rw [hs1]; omega)]; exact World.alloc_heap_new _ _
      size := hi2.size
      env := fun t => (hi2.env t).keep k12.toKeep }
  refine (all168 ha hl hb6 u8 hcnt hL).mono ?_
  rintro e w3 ⟨rfl, M3, o3, p3, left3, last3, hL3⟩
  refine ⟨none, _, run_endLoop hL3.lrec (by simp), ?_⟩
  have hz2 := hi2.size
  have hf2 : a2.defers = [] := hi2.defers
  have hdm2 := hi2.inv.dom
  letI : DSt := ⟨[{ target := .collected w2.heap.size, args := #[] }]⟩
  obtain ⟨w4, hw4⟩ : ∃ w4, w3.putObj (w2.heap.size + 1) (.loop { state := .exhausted, pending := none, fn := fn, tmps := a2.tmps, params := #[26], assign := .region 6 asO false, body := .block 1 (.region 7 bdO false), defers := w2.heap.size }) = w4 := ⟨_, rfl⟩
  have hi4 : AInv 48 M3 T2 (sN b2 bc r b8 (bt b 3) o3 (esOf (decP b (bt b 3) (word2 b 4) 6 (-1)).1) (eRd b p3 last3 left3 (word2 b 4) (fin b (word2 b 4) 6 (-1)).1 (fin b (word2 b 4) 6 (-1)).2)) { a2 with defers := [{ target := .collected w2.heap.size, args := #[] }] ++ a2.defers } w4 :=
    ⟨hw4 ▸ inv_put hL3.inv hL3.ml hL3.nl, hz2, by rw [hf2]; rfl, fun t => (hL3.env t).keep (hw4 ▸ keep_put hL3.ml)⟩
  have hK4 : KeepF M {} w M3 (sN b2 bc r b8 (bt b 3) o3 (esOf (decP b (bt b 3) (word2 b 4) 6 (-1)).1) (eRd b p3 last3 left3 (word2 b 4) (fin b (word2 b 4) 6 (-1)).1 (fin b (word2 b 4) 6 (-1)).2)) w4 := hk2.trans hi.dom (hw4 ▸ keepF_put hdm2 hL3.old hL3.ml hL3.hl)
  have hd4 : w4.heap[w2.heap.size]? = some (.deferred (some [])) := by rw [← hw4, World.putObj_heap_other (by omega)]; exact hL3.dfr
  have hsz2 : w.heap.size ≤ w2.heap.size := hk2.size
  have fin94 : ∀ a5 w5 M5 T5 s5, AInv 48 M5 T5 s5 a5 w5 → KeepF M3 (sN b2 bc r b8 (bt b 3) o3 (esOf (decP b (bt b 3) (word2 b 4) 6 (-1)).1) (eRd b p3 last3 left3 (word2 b 4) (fin b (word2 b 4) 6 (-1)).1 (fin b (word2 b 4) 6 (-1)).2)) w4 M5 s5 w5 → (∃ d, resA Tryz.prog T5 s5 Tryz.f94.results.toList = some d ∧
      DLe d (if (fin b (word2 b 4) 6 (-1)).2 ≠ 0 then .tup [.agg (eCt ct0), .int .i64 (fin b (word2 b 4) 6 (-1)).1, .int .i64 (fin b (word2 b 4) 6 (-1)).2] else .tup [.agg (eCt ⟨bt b 3, esOf (decP b (bt b 3) (word2 b 4) 6 (-1)).1⟩), .int .i64 0, .int .i64 0])) →
      bodyPostM Fence.wide 0 Tryz.prog Tryz.f94 (fun e w' => ∃ M' s' x, RepE M' w' x e ∧ Inv M' s' w' ∧ KeepF M {} w M' s' w' ∧ x = .ret (.tup [.agg (eCt (decC b).1), .int .i64 (decC b).2.1, .int .i64 (decC b).2.2]) ∧ s' = {}) .ret a5 w5 := by
    rintro a5 w5 M5 T5 s5 hi5 hk5 ⟨d, hd, hle⟩
    have hf5 := hk5.frame w2.heap.size (by rw [hL3.md]; simp) hL3.nd
    have hM5 : M5 w2.heap.size = some .box := hf5.1.trans hL3.md
    have hs5 : ¬ s5.has w2.heap.size := fun hx => (hk5.fresh _ hx).elim hL3.nd (by have := hi4.inv.dom _ (show M3 w2.heap.size ≠ none by rw [hL3.md]; simp); omega)
    refine leaves_mark hi5 hi5.defers (hf5.2.trans hd4) hM5 hs5 hd hle fun v hv => ?_
    refine ⟨M5, {}, .ret _, ⟨v, rfl, ?_⟩, (inv_put hi5.inv hM5 hs5).less (St.le.nil _), (keepF_put hi.dom (hK4.trans hi.dom hk5) hM5 hsz2).less (St.le.nil _), rfl, rfl⟩
    rw [decC_fin h0]
    split
    · rename_i h; rw [if_pos h] at hv; exact hv
    · rename_i h; rw [if_neg h] at hv; exact hv
  show (chainC [p94 5, p94 6] .ret).wpIn Fence.wide 0 Tryz.prog _ { a2 with defers := [{ target := .collected w2.heap.size, args := #[] }] ++ a2.defers } _
  rw [hw4]
  refine wpIn_chain (M₀ := M3) (w₀ := w4) Tryz.follows_mixed (by decide) hi4.inv.dom ?hy3 ?hx3 _ (after94_ok b ha u2 u5 u8) hi4 (KeepF.refl _ _ _)
  case hx3 =>
    rintro e a5 w5 hne ⟨M5, T5, s5, x, hx, hi5, hk5, rfl | rfl, hd⟩
    · obtain rfl := hx
      exact fin94 a5 w5 M5 T5 s5 hi5 hk5 hd
    · exact absurd hx hne
  rintro a5 w5 ⟨M5, T5, s5, x, hx, hi5, hk5, -, -, hd⟩
  exact wpIn_ret (fin94 a5 w5 M5 T5 s5 hi5 hk5 hd)
def alikeF (n : Nat) (a b : Fr) : Nat := if checkF n a ≠ 0 then checkF n a else if checkF n b ≠ 0 then checkF n b else if a.loc = b.loc ∧ a.h = b.h then 0 else 32
def bYfaA0 := aI @eFr_len (aI @eFr_take (aI @fr_0 (aI @fr_1 @gdD)))
theorem alike206 (l : List Cl) (o : Own) (a b : Fr) : PCall Tryz.prog 206 [.slice o (rws eC l), .agg (eFr a), .agg (eFr b)] (.int .i64 (alikeF l.length a b)) := by
  refine F206.pcall' rfl fun T hT => ?_
  simp -implicitDefEqProofs only [go_sem, c206, hT, bYfaA0]
  intro b4 b5 n1 n2
  simp -implicitDefEqProofs only [go_sem, hT, n1, n2, bYfaA0]
  refine callB_pure (check81 l o a) ?_
  by_cases h1 : checkF l.length a = 0
  case neg =>
    have h1' : ((checkF l.length a : Int) = 0) = False := by simp; omega
    rw [show alikeF l.length a b = checkF l.length a by rw [alikeF, if_pos h1]]
    simp -implicitDefEqProofs only [go_sem, mmB, hT, n1, n2, h1', bYfaA0]
    all_goals exact DLe.refl _
  have h1' : ((checkF l.length a : Int) = 0) = True := by simp; omega
  simp -implicitDefEqProofs only [go_sem, hT, n1, n2, h1', bYfaA0]
  refine callB_pure (check81 l o b) ?_
  by_cases h2 : checkF l.length b = 0
  case neg =>
    have h2' : ((checkF l.length b : Int) = 0) = False := by simp; omega
    rw [show alikeF l.length a b = checkF l.length b by rw [alikeF, if_neg (by simp [h1]), if_pos h2]]
    simp -implicitDefEqProofs only [go_sem, mmB, hT, n1, n2, h2', bYfaA0]
    all_goals exact DLe.refl _
  have h2' : ((checkF l.length b : Int) = 0) = True := by simp; omega
  have ha : alikeF l.length a b = if a.loc = b.loc ∧ a.h = b.h then 0 else 32 := by rw [alikeF, if_neg (by simp [h1]), if_neg (by simp [h2])]
  rw [ha, h2]
  by_cases h3 : a.loc = b.loc ∧ a.h = b.h
  · have hq : (!decide (a.loc = b.loc) || !decide (a.h = b.h)) = false := by simp [h3]
    rw [if_pos h3]
    simp -implicitDefEqProofs only [go_sem, mmB, hT, eFr_len, eFr_take, fr_0, fr_1, gdD, n1, n2, h2', hq, Int.ofNat_zero]
    all_goals exact DLe.refl _
  · have hq : (!decide (a.loc = b.loc) || !decide (a.h = b.h)) = true := by
      by_cases h4 : a.loc = b.loc
      · have : ¬ a.h = b.h := fun h => h3 ⟨h4, h⟩
        simp [h4, this]
      · simp [h4]
    rw [if_neg h3]
    simp -implicitDefEqProofs only [go_sem, mmB, hT, eFr_len, eFr_take, fr_0, fr_1, gdD, n1, n2, h2', hq, Int.ofNat_zero]
    all_goals exact DLe.refl _
theorem sub171 (l : List Cl) (o : Own) (a b : Fr) (hl : l.length ≤ 140737488355328) : PCall Tryz.prog 171 [.slice o (rws eC l), .agg (eFr a), .agg (eFr b)] (.bool (subFr l a b)) := by
  refine F171.pcall' rfl fun T hT => ?_
  simp -implicitDefEqProofs only [go_sem, c171, hT, bYfaA0]
  intro b4 b5 n1 n2
  simp -implicitDefEqProofs only [go_sem, hT, n1, n2, bYfaA0]
  refine callB_pure (alike206 l o a b) ?_
  have hsf : subFr l a b = (decide (alikeF l.length a b = 0) && (List.range 24).all fun i => subB l (slAt a i) (slAt b i)) := by
    rw [subFr]; congr 1
    unfold alikeF
    rw [Bool.eq_iff_iff]
    simp only [decide_eq_true_eq]
    repeat' split
    all_goals simp_all
    all_goals omega
  by_cases h0 : alikeF l.length a b = 0
  case neg =>
    have h0' : ((alikeF l.length a b : Int) = 0) = False := by simp; omega
    simp -implicitDefEqProofs only [go_sem, hT, n1, n2, h0', bYfaA0]
    exact DLe_bool (by rw [hsf, decide_eq_false h0]; rfl)
  have h0' : ((alikeF l.length a b : Int) = 0) = True := by simp; omega
  obtain ⟨R, hR⟩ : ∃ R, ((List.range 24).all fun i => subB l (slAt a i) (slAt b i)) = R := ⟨_, rfl⟩
  rw [hsf, decide_eq_true h0, hR, Bool.true_and]
  simp -implicitDefEqProofs only [go_sem, hT, eFr_len, eFr_take, fr_0, fr_1, gdD, n1, n2, h0', Int.ofNat_zero]
  refine loopL F171 (fun i : Nat => [(0, .slice o (rws eC l)), (4, .ptr b4 0), (5, .ptr b5 0), (13, .int .i64 i)]) (fun _ => (({} : St).set b4 (eFr a)).set b5 (eFr b)) (fun i => i ≤ 24 ∧ ∀ j : Nat, j < i → subB l (slAt a j) (slAt b j) = true) (fun i => 24 - i) 0 ⟨by omega, fun j hj => by omega⟩ ?_ (St.le.refl _) ?_
  · simp -implicitDefEqProofs only [go_sem, hT, Int.ofNat_zero]
  clear hT T
  rintro k ⟨hk, hv⟩ T hT
  by_cases hkn : k < 24
  · have h1 : ((k : Int) < 24) = True := by simp; omega
    have hx := fr_slAt a hkn
    have hy := fr_slAt b hkn
    have hd : ∀ j : Nat, j < k + 1 → j = k ∨ j < k := fun j hj => by omega
    have hkm : 24 - (k + 1) < 24 - k := by omega
    simp -implicitDefEqProofs only [go_sem, hT, h1, hx, hy, Nat.mul_one, n1, n2, bYfaA0]
    refine ⟨by omega, by omega, callB_pure (sub164 l o _ _ hl) ?_⟩
    cases hb : subB l (slAt a k) (slAt b k)
    · obtain rfl : R = false := hR.symm.trans (List.all_eq_false.2 ⟨k, List.mem_range.2 hkn, by simp [hb]⟩)
      simp -implicitDefEqProofs only [go_sem, hT]
    · simp -implicitDefEqProofs only [go_sem, hT]
      refine ⟨k + 1, ⟨hkn, fun j hj => ?_⟩, hkm, ?_, St.le.refl _⟩
      · rcases hd j hj with rfl | h
        · exact hb
        · exact hv j h
      · rw [wrap_i64 (by omega) (by omega)]; simp
  · have h1 : ((k : Int) < 24) = False := by simp; omega
    obtain rfl : k = 24 := by omega
    have hall : ((List.range 24).all fun i => subB l (slAt a i) (slAt b i)) = true := List.all_eq_true.2 fun j hj => hv j (List.mem_range.1 hj)
    obtain rfl : R = true := hR.symm.trans hall
    simp -implicitDefEqProofs only [go_sem, hT, h1, n1, n2, bYfaA0]
end Go.AL
