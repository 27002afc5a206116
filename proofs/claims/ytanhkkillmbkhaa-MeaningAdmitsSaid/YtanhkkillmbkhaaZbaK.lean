import Derived.Test.YtanhkkillmbkhaaZbaJ
import Derived.ChangeMaps5
namespace Go.AL
open Go.ChangeShapes Go.WideShapes Go.ChangeAt Go.RowKit
set_option linter.unusedVariables false
set_option linter.unusedSimpArgs false

/-- A parameter as data. -/
def WV (P : Program) (n : Nat) (t : TypeId) (d : D) : Prop := ∃ cells, WT P n t cells ∧ (match P.underlying t with
  | some (.struct _) | some (.array _ _) => d = .agg cells
  | _ => cells = [d])
def WVs (P : Program) (n : Nat) : List TypeId → List D → Prop
  | [], Ds => Ds = []
  | t :: ts, Ds => ∃ d r, Ds = d :: r ∧ WV P n t d ∧ WVs P n ts r

section
variable {P : Program} {w W W' : World} {H : Type} {enc : TypeId × Value → H} {base : Nat} {spare : Nat → Bool} {held : Bool}

theorem wt_one {n : Nat} {t : TypeId} {cells : List D} (h : WT P n t cells) (ht : ∀ fs, P.underlying t ≠ some (.struct fs)) (ht' : ∀ m e, P.underlying t ≠ some (.array m e)) : ∃ d, cells = [d] := by
  cases n with
  | zero => exact h.elim
  | succ n =>
    unfold WT at h
    split at h
    · obtain ⟨b, rfl⟩ := h; exact ⟨_, rfl⟩
    · obtain ⟨b, rfl, _⟩ := h; exact ⟨_, rfl⟩
    · obtain ⟨b, rfl, _⟩ := h; exact ⟨_, rfl⟩
    · obtain ⟨b, rfl, _⟩ := h; exact ⟨_, rfl⟩
    · rename_i hu; exact absurd hu (ht _)
    · rename_i hu; exact absurd hu (ht' _ _)
    · exact h.elim

theorem open_value {n : Nat} {t : TypeId} {v : Value} {d : DataW H} {ps : List MemPlace} {b0 : Nat} (hp : plainT P n t = true) (hval : Value.okWide P w .any b0 t v) (h : DataW.Trod enc P w base spare held t v d ps)
    (hw : (d.weights P t).all (· ≤ reachBytes) = true) : ∃ x, Rep M0 w x v ∧ WV P n t x := by
  obtain ⟨fuel, hf⟩ := h
  obtain ⟨ds, r1, o1, w1, l1⟩ := open_wt n fuel t _ _ hp hf hw
  have agg : (∃ cs, v = .agg cs ∧ cs.size = P.cellsOf t ∧ Row.okWide P w .any b0 t cs) → ∃ x, Rep M0 w x v ∧ x = .agg ds := fun ⟨cs, hv, _, _⟩ => by
    subst hv
    exact ⟨.agg ds, ⟨cs, rfl, by simpa [Value.cells] using r1, by simpa [Value.cells] using o1⟩, rfl⟩
  unfold Value.okWide at hval
  unfold WV
  split at hval
  · rename_i fs hu
    obtain ⟨x, hx, rfl⟩ := agg hval
    exact ⟨_, hx, ds, w1, by rw [hu]⟩
  · rename_i m e hu
    obtain ⟨x, hx, rfl⟩ := agg hval
    exact ⟨_, hx, ds, w1, by rw [hu]⟩
  · rename_i hn1 hn2
    obtain ⟨x, rfl⟩ := wt_one w1 (fun fs he => hn1 _ he) (fun m e he => hn2 _ _ he)
    have hlen := r1.length
    obtain ⟨u, us, he, ru, hus⟩ := r1
    have : us = [] := hus
    subst this
    have ho : u.oneCell' = true := o1 u (by rw [he]; simp)
    have hvu : v = u := by
      cases v <;> simp only [Value.cells, List.cons.injEq, and_true] at he <;> try exact he
      exfalso
      unfold Cell.okWide at hval
      split at hval <;> first
        | contradiction
        | (unfold Cell.ok at hval; split at hval <;> first | contradiction | exact hval)
    subst hvu
    refine ⟨x, ru, [x], w1, ?_⟩
    split
    · rename_i hu; exact absurd hu (hn1 _)
    · rename_i hu; exact absurd hu (hn2 _ _)
    · rfl

theorem open_all {n : Nat} {b0 : Nat} : ∀ {ts : List TypeId} {vs : List Value} {ds : List (DataW H)} {ps : List MemPlace}, (∀ t ∈ ts, plainT P n t = true) → (∀ (j : Nat) t v, ts[j]? = some t → vs[j]? = some v → Value.okWide P w .any b0 t v) →
    DataW.TrodAll enc P w base spare held ts vs ds ps → (DataW.weightsEach P ts ds).all (· ≤ reachBytes) = true → ∃ Ds, RepAll M0 w Ds vs ∧ WVs P n ts Ds
  | [], vs, ds, ps, hp, hv, h, hw => by
    obtain ⟨rfl, rfl, rfl⟩ := trodAll_nil h
    exact ⟨[], rfl, rfl⟩
  | t :: ts, vs, ds, ps, hp, hv, h, hw => by
    obtain ⟨v, vs', d, ds', p, q, rfl, rfl, rfl, h1, h2⟩ := trodAll_cons h
    simp only [DataW.weightsEach, List.all_append, Bool.and_eq_true] at hw
    obtain ⟨x, rx, wx⟩ := open_value (hp t (by simp)) (hv 0 t v rfl rfl) h1 hw.1
    obtain ⟨Ds, r2, w2⟩ := open_all (fun t ht => hp t (by simp [ht])) (fun j t v h1 h2 => hv (j + 1) t v (by simpa using h1) (by simpa using h2)) h2 hw.2
    exact ⟨x :: Ds, ⟨v, vs', rfl, rx, r2⟩, x, Ds, rfl, wx, w2⟩

theorem trodAll_back (hl : laidOutB P = true) (hb : Below W.heap.size W W') : ∀ {ts : List TypeId} {vs : List Value} {ds : List (DataW H)} {ps : List MemPlace}, (∀ t ∈ ts, P.readableRec t = true ∧ t < P.types.size) →
    DataW.TrodAll enc P W 0 (fun _ => true) true ts vs ds ps → DataW.TrodAll enc P W' 0 (fun b => decide (b < W.heap.size)) true ts vs ds ps
  | [], vs, ds, ps, hp, h => by
    obtain ⟨rfl, rfl, rfl⟩ := trodAll_nil h
    exact trodAll_mk0
  | t :: ts, vs, ds, ps, hp, h => by
    obtain ⟨v, vs', d, ds', p, q, rfl, rfl, rfl, h1, h2⟩ := trodAll_cons h
    obtain ⟨hr, ht⟩ := hp t (by simp)
    refine ⟨p, q, Below.trod hl hr ht h1 hb ?_, trodAll_back hl hb (fun t ht => hp t (by simp [ht])) h2, rfl⟩
    obtain ⟨m, hm⟩ := h1
    exact DataW.trod_lt m _ _ _ hm

theorem below_of_keep {M' : MMap} (h : Keep M0 W M' W') : Below W.heap.size W W' :=
  ⟨h.os, h.tape, h.output, h.size, fun k hk => (h.imm k hk rfl).2⟩

theorem law_contract {f : FuncId} {fn : Func} {s : ChangeSpec} (n : Nat) {rt : TypeId} (hs : ∀ ds : List (DataW H), ds.length = fn.params.size → s.fn H ds = { results := [.lit (.bool true)], args := ds }) (hvars : s.vars = []) (hvt : s.plain.varTypes P = [])
    (hpl : fn.params.toList.all (plainT P n) = true) (hread : fn.params.toList.all (fun t => P.readableRec t && decide (t < P.types.size)) = true) (laid : laidOutB P = true) (hres : fn.resultTypes = #[rt]) (hrt : P.underlying rt = some .bool)
    (pure : ∀ Ds, WVs P n fn.params.toList Ds → PCall P f Ds (.bool true)) {conds : List PathCond} {a : Assume}
    (W : World) (base : Nat) (args : Array Value) (ds gs : List (DataW H)) (before : List MemPlace)
    (hval : ∀ (j : Nat) t v, fn.params[j]? = some t → args[j]? = some v → Value.okWide P W .any base t v)
    (hW : DataW.Whole enc P fn.params.toList s.vars false W args.toList ds gs before)
    (hz : (DataW.weightsEach P (fn.params.toList ++ s.plain.varTypes P) (ds ++ gs)).all (· ≤ reachBytes) = true) :
    Calls P f args W fun e W' => ∃ v, e = .returned v ∧ s.post enc P fn false true false false W args v W' := by
  have hW' := hW
  obtain ⟨p, q, hA, hV, rfl, hfz, hnd⟩ := hW
  rw [hvars] at hV
  obtain ⟨rfl, rfl⟩ := trodVars_none hV
  simp only [List.append_nil, hvt] at hz hW'
  obtain ⟨Ds, r1, w1⟩ := open_all (fun t ht => List.all_eq_true.1 hpl t ht) (fun j t v h1 h2 => hval j t v (by simpa using h1) (by simpa using h2)) hA hz
  have hi : Inv M0 {} W := ⟨fun b cs h => (by cases h), fun b s n h => (by cases h), fun b h => absurd rfl h⟩
  have hc := (pure Ds w1).run M0 W args.toList hi r1
  simp only [Array.toArray_toList] at hc
  refine hc.mono fun e W' ⟨M', s', x, hx, _, hk, hR⟩ => ?_
  obtain ⟨rfl, rfl⟩ := hR
  obtain ⟨v, rfl, hv⟩ := hx
  have hvb : v = .bool true := hv
  subst hvb
  have bel := below_of_keep hk.toKeep
  have hdl : ds.length = fn.params.size := by
    have : ∀ {ts : List TypeId} {vs : List Value} {ds : List (DataW H)} {ps : List MemPlace}, DataW.TrodAll enc P W 0 (fun _ => true) true ts vs ds ps → ds.length = ts.length := by
      intro ts
      induction ts with
      | nil => intro vs ds ps h; obtain ⟨_, rfl, _⟩ := trodAll_nil h; rfl
      | cons t ts ih =>
        intro vs ds ps h
        obtain ⟨v, vs', d, ds', p, q, rfl, rfl, rfl, h1, h2⟩ := trodAll_cons h
        simp [ih h2]
    simpa using this hA
  refine ⟨_, rfl, ds, [], _, [], p, [], hW', ?_, ?_, ?_, bel.frame _, fun h => by cases h⟩
  · rw [List.append_nil, hs ds hdl, hres]
    exact trodAll_mk1 (shut_bool hrt _)
  · rw [List.append_nil, hs ds hdl]
    exact trodAll_back laid bel (fun t ht => by
      have := List.all_eq_true.1 hread t ht
      simpa using this) hA
  · rw [List.append_nil, hs ds hdl, hvars]
    rfl
end
end Go.AL
