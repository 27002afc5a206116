import Derived.Test.YtanhkkillmbkhaaZbaI
import Derived.ProofKit
import Derived.OpenShut
import Derived.ChangeOld
import Derived.Below
import Derived.Carry
import Derived.SizedLaws
namespace Go.AL
set_option linter.unusedVariables false
set_option linter.unusedSimpArgs false

section
variable (P : Program)
def WTs (W : TypeId → List D → Prop) : List TypeId → List D → Prop
  | [], ds => ds = []
  | t :: ts, ds => ∃ d1 d2, ds = d1 ++ d2 ∧ W t d1 ∧ WTs W ts d2
/-- Cells of a type that is built of numbers, strings, rows and records alone. -/
def WT : Nat → TypeId → List D → Prop
  | 0, _, _ => False
  | n + 1, t, ds => match P.underlying t with
    | some .bool => ∃ b, ds = [.bool b]
    | some (.int k) => ∃ z, ds = [.int k z] ∧ (Lit.int k z).wf = true
    | some .string => ∃ s : ByteArray, ds = [.str s] ∧ s.size ≤ reachBytes
    | some (.slice e) => ∃ es, ds = [.slice .no es] ∧ es.length * P.bytesOf e ≤ reachBytes ∧ ∀ r ∈ es, WT n e r
    | some (.struct fs) => WTs (WT n) (fs.toList.map (·.type)) ds
    | some (.array m e) => WTs (WT n) (List.replicate m e) ds
    | _ => False
def contB : Nat → List (TypeId × Nat) → Nat → Bool
  | off, [], e => off == e
  | off, (t, o) :: r, e => o == off && contB (off + P.cellsOf t) r e
def plainT : Nat → TypeId → Bool
  | 0, _ => false
  | n + 1, t => match P.underlying t with
    | some .bool | some (.int _) | some .string => P.cellsOf t == 1
    | some (.slice e) => P.cellsOf t == 1 && decide (0 < P.cellsOf e) && plainT n e
    | some (.struct fs) => fs.toList.all (fun f => plainT n f.type) && contB P 0 (fs.toList.map fun f => (f.type, f.offset)) (P.cellsOf t)
    | some (.array m e) => plainT n e && contB P 0 ((List.range m).map fun i => (e, i * P.cellsOf e)) (P.cellsOf t)
    | _ => false
end

def M0 : MMap := fun _ => none
variable {P : Program} {w : World} {H : Type} {enc : TypeId × Value → H} {base : Nat} {spare : Nat → Bool} {held : Bool}

theorem imm0 (b off : Nat) : ImmAt M0 b off := trivial

/-- What opening one type's cells gives. -/
def Opens (P : Program) (w : World) (n : Nat) (t : TypeId) (cs : List Value) : Prop :=
  ∃ ds, RepAll M0 w ds cs ∧ (∀ u ∈ cs, u.oneCell' = true) ∧ WT P n t ds ∧ cs.length = P.cellsOf t

theorem open_parts {n m : Nat} (ih : ∀ t cs x, plainT P n t = true → DataW.trod enc P w base spare held m t cs = some x → (x.1.weights P t).all (· ≤ reachBytes) = true → Opens P w n t cs) :
    ∀ (l : List (TypeId × Nat)) (off : Nat) (cs : List Value) (xs : List (DataW H × List MemPlace)), (∀ p ∈ l, plainT P n p.1 = true) → contB P off l cs.length = true → xs.length = l.length →
      (∀ (i : Nat) p, l[i]? = some p → DataW.trod enc P w base spare held m p.1 ((cs.drop p.2).take (P.cellsOf p.1)) = xs[i]?) →
      (DataW.weightsEach P (l.map (·.1)) (xs.map (·.1))).all (· ≤ reachBytes) = true →
      ∃ ds, RepAll M0 w ds (cs.drop off) ∧ (∀ u ∈ cs.drop off, u.oneCell' = true) ∧ WTs (WT P n) (l.map (·.1)) ds
  | [], off, cs, xs, hp, hc, hx, ht, hw => by
    simp only [contB, beq_iff_eq] at hc
    subst hc
    refine ⟨[], by simp [RepAll], by simp, rfl⟩
  | (t, o) :: r, off, cs, xs, hp, hc, hx, ht, hw => by
    simp only [contB, Bool.and_eq_true, beq_iff_eq] at hc
    obtain ⟨rfl, hc⟩ := hc
    cases xs with
    | nil => simp at hx
    | cons x xs =>
      simp only [List.map_cons, DataW.weightsEach, List.all_append, Bool.and_eq_true] at hw
      have h0 := ht 0 (t, o) rfl
      simp only [List.getElem?_cons_zero] at h0
      obtain ⟨d1, r1, o1, w1, l1⟩ := ih t _ x (hp (t, o) (by simp)) h0 hw.1
      obtain ⟨d2, r2, o2, w2⟩ := open_parts ih r (o + P.cellsOf t) cs xs (fun p h => hp p (by simp [h])) hc (by simpa using hx) (fun i p hi => ht (i + 1) p (by simpa using hi)) hw.2
      have e : cs.drop o = (cs.drop o).take (P.cellsOf t) ++ cs.drop (o + P.cellsOf t) := by
        rw [← List.drop_drop, List.take_append_drop]
      refine ⟨d1 ++ d2, by rw [e]; exact r1.append r2, ?_, ⟨d1, d2, rfl, w1, w2⟩⟩
      rw [e]
      intro u hu
      rcases List.mem_append.1 hu with h | h
      · exact o1 u h
      · exact o2 u h

theorem weightsAll_each (e : TypeId) : ∀ (ds : List (DataW H)), DataW.weightsAll P e ds = DataW.weightsEach P (List.replicate ds.length e) ds
  | [] => rfl
  | d :: ds => by simp [DataW.weightsAll, DataW.weightsEach, List.replicate_succ, weightsAll_each e ds]

theorem weightsAll_mem {e : TypeId} {ds : List (DataW H)} (h : (DataW.weightsAll P e ds).all (· ≤ reachBytes) = true) {d : DataW H} (hd : d ∈ ds) : (d.weights P e).all (· ≤ reachBytes) = true := by
  induction ds with
  | nil => cases hd
  | cons a l ih =>
    simp only [DataW.weightsAll, List.all_append, Bool.and_eq_true] at h
    rcases List.mem_cons.1 hd with rfl | hd
    · exact h.1
    · exact ih h.2 hd

theorem repCells_of {b : Nat} : ∀ {ds : List D} {vs : List Value} {off : Nat}, RepAll M0 w ds vs → (∀ u ∈ vs, u.oneCell' = true) → (∀ (i : Nat) v, vs[i]? = some v → w.cell? ⟨b, off + i, none⟩ = some v) → RepCells M0 w ds b off
  | [], _, _, _, _, _ => trivial
  | d :: ds, vs, off, hr, h1, hc => by
    obtain ⟨v, vs', rfl, r1, r2⟩ := hr
    refine ⟨⟨v, by simpa using hc 0 v rfl, h1 v (by simp), imm0 _ _, r1⟩, repCells_of r2 (fun u hu => h1 u (by simp [hu])) fun i u hi => ?_⟩
    have := hc (i + 1) u (by simpa using hi)
    rw [show off + 1 + i = off + (i + 1) by omega]; exact this

theorem list_choice {α : Type} {Q : Nat → α → Prop} : ∀ (n : Nat), (∀ i, i < n → ∃ x, Q i x) → ∃ l : List α, l.length = n ∧ ∀ (i : Nat) x, l[i]? = some x → Q i x
  | 0, _ => ⟨[], rfl, fun i x h => by simp at h⟩
  | n + 1, h => by
    obtain ⟨l, h1, h2⟩ := list_choice n fun i hi => h i (by omega)
    obtain ⟨x, hx⟩ := h n (by omega)
    refine ⟨l ++ [x], by simp [h1], fun i y hy => ?_⟩
    by_cases hi : i < l.length
    · rw [List.getElem?_append_left hi] at hy; exact h2 i y hy
    · rw [List.getElem?_append_right (by omega)] at hy
      have : i - l.length = 0 := by
        have := (List.getElem?_eq_some_iff.1 hy).1
        simp at this; omega
      rw [this] at hy
      simp at hy
      subst hy
      rw [show i = n by omega]; exact hx

theorem open_wt : ∀ (n fuel : Nat) (t : TypeId) (cs : List Value) (x : DataW H × List MemPlace), plainT P n t = true → DataW.trod enc P w base spare held fuel t cs = some x → (x.1.weights P t).all (· ≤ reachBytes) = true → Opens P w n t cs
  | 0, _, _, _, _, hp, _, _ => by cases hp
  | n + 1, fuel, t, cs, x, hp, h, hw => by
    unfold plainT at hp
    unfold Opens WT
    split at hp
    · rename_i hu
      obtain ⟨b, rfl, rfl⟩ := DataW.trod_bool hu h
      exact ⟨[.bool b], ⟨_, _, rfl, rfl, rfl⟩, by simp [Value.oneCell'], ⟨b, rfl⟩, by simpa using (beq_iff_eq.1 hp).symm⟩
    · rename_i k hu
      obtain ⟨z, rfl, rfl, hz⟩ := DataW.trod_int hu h
      exact ⟨[.int k z], ⟨_, _, rfl, rfl, rfl⟩, by simp [Value.oneCell'], ⟨z, rfl, hz⟩, by simpa using (beq_iff_eq.1 hp).symm⟩
    · rename_i hu
      obtain ⟨s, rfl, rfl, hs⟩ := DataW.trod_string hu h
      refine ⟨[.str s], ⟨_, _, rfl, rfl, rfl⟩, by simp [Value.oneCell'], ⟨s, rfl, ?_⟩, by simpa using (beq_iff_eq.1 hp).symm⟩
      simpa [DataW.weights] using hw
    · rename_i e hu
      simp only [Bool.and_eq_true, decide_eq_true_eq, beq_iff_eq] at hp
      obtain ⟨⟨hp1, hp2⟩, hp3⟩ := hp
      rcases DataW.trod_slice hu h with ⟨rfl, rfl⟩ | ⟨a, len, cap, elems, rest, m, rfl, rfl, rfl, hb, hl, hm, hlen, hel, _, _⟩
      · exact ⟨[.slice .no []], ⟨_, _, rfl, .inl ⟨rfl, rfl⟩, rfl⟩, by simp [Value.oneCell'], ⟨[], rfl, by simp, by simp⟩, by simpa using hp1.symm⟩
      · simp only [DataW.weights, hu, List.all_cons, List.all_append, Bool.and_eq_true, decide_eq_true_eq, List.length_map] at hw
        obtain ⟨hw1, hw2, _⟩ := hw
        have each : ∀ i, i < len → ∃ ds, WT P n e ds ∧ ds.length = P.cellsOf e ∧ a.spot = none ∧ RepCells M0 w ds a.block (a.off + i * P.cellsOf e) := by
          have hone : ∀ i, i < len → ∃ y cs', elems[i]? = some y ∧ w.cells? base (a.add (i * P.cellsOf e)) (P.cellsOf e) = some cs' ∧ DataW.trod enc P w base spare held m e cs' = some y := by
            intro i hi
            have hy := hel i hi
            obtain ⟨y, hy'⟩ : ∃ y, elems[i]? = some y := ⟨elems[i]'(by omega), by simp [show i < elems.length by omega]⟩
            rw [hy', Option.bind_eq_some_iff] at hy
            obtain ⟨cs', hc', hy⟩ := hy
            exact ⟨y, cs', hy', hc', hy⟩
          intro i hi
          have hsp : a.spot = none := by
            obtain ⟨y, cs', _, hc', _⟩ := hone 0 (by omega)
            obtain ⟨_, hcl, hcc⟩ := World.cells?_some hc'
            have h0 := hcc 0 hp2
            have e0 : (a.add (0 * P.cellsOf e)).add 0 = a := by simp [Addr.add]
            rw [e0] at h0
            have : cs'[0]? = some (cs'[0]'(by omega)) := by simp
            rw [this] at h0
            unfold World.cell? at h0
            split at h0
            · cases hs : a.spot with
              | none => rfl
              | some q => simp [hs] at h0
            · cases h0
          obtain ⟨y, cs', hy', hc', hy⟩ := hone i hi
          obtain ⟨ds, r1, o1, w1, l1⟩ := open_wt n m e cs' y hp3 hy (weightsAll_mem hw2 (List.mem_map.2 ⟨y, List.mem_of_getElem? hy', rfl⟩))
          obtain ⟨hbb, hcl, hcc⟩ := World.cells?_some hc'
          refine ⟨ds, w1, by rw [r1.length, l1], hsp, repCells_of r1 o1 fun j v hj => ?_⟩
          obtain ⟨ab, ao, as⟩ := a
          simp only at hsp
          subst hsp
          have hjl : j < P.cellsOf e := by
            have := (List.getElem?_eq_some_iff.1 hj).1
            omega
          have := hcc j hjl
          rw [addr_add, addr_add, hj] at this
          exact this
        obtain ⟨es, he1, he2⟩ := list_choice len each
        refine ⟨[.slice .no es], ⟨_, _, rfl, ?_, rfl⟩, by simp [Value.oneCell'], ⟨es, rfl, ?_, fun r hr => ?_⟩, by simpa using hp1.symm⟩
        · cases len with
          | zero => exact .inr (.inr ⟨a, cap, rfl, List.eq_nil_of_length_eq_zero he1⟩)
          | succ k =>
            obtain ⟨_, _, _, hsp, _⟩ := each 0 (by omega)
            obtain ⟨ab, ao, as⟩ := a
            simp only at hsp
            subst hsp
            refine .inr (.inl ⟨ab, ao, cap, P.cellsOf e, by rw [he1], by rw [he1]; exact hl, RepRows.mk fun i r hr => ?_⟩)
            obtain ⟨_, h2, _, h4⟩ := he2 i r hr
            exact ⟨h2, h4⟩
        · refine Nat.le_trans ?_ hw1
          rw [he1, hlen]
          exact Nat.mul_le_mul_right _ (Nat.le_add_right _ _)
        · obtain ⟨i, hi⟩ := List.getElem?_of_mem hr
          exact (he2 i r hi).1
    · rename_i fs hu
      simp only [Bool.and_eq_true] at hp
      obtain ⟨hp1, hp2⟩ := hp
      obtain ⟨xs, m, rfl, rfl, hcl, hxl, hx⟩ := DataW.trod_struct hu h
      simp only [DataW.weights, hu] at hw
      obtain ⟨ds, r1, o1, w1⟩ := open_parts (fun t cs x => open_wt n m t cs x) (fs.toList.map fun f => (f.type, f.offset)) 0 cs xs (fun p hpm => by
          obtain ⟨f, hf, rfl⟩ := List.mem_map.1 hpm
          exact List.all_eq_true.1 hp1 f hf) (by rw [hcl]; exact hp2) (by simpa using hxl) (fun i p hi => by
          simp only [List.getElem?_map, Option.map_eq_some_iff] at hi
          obtain ⟨f, hf, rfl⟩ := hi
          exact hx i f (by simpa using hf)) (by simpa [List.map_map, Function.comp_def] using hw)
      exact ⟨ds, by simpa using r1, by simpa using o1, by simpa [List.map_map, Function.comp_def] using w1, hcl⟩
    · rename_i k e hu
      simp only [Bool.and_eq_true] at hp
      obtain ⟨hp1, hp2⟩ := hp
      obtain ⟨xs, m, rfl, rfl, hcl, hxl, hx⟩ := DataW.trod_array hu h
      simp only [DataW.weights, hu, weightsAll_each, List.length_map, hxl] at hw
      have hrep : ((List.range k).map fun i => (e, i * P.cellsOf e)).map (·.1) = List.replicate k e := by
        rw [List.map_map, List.eq_replicate_iff]; simp
      obtain ⟨ds, r1, o1, w1⟩ := open_parts (fun t cs x => open_wt n m t cs x) ((List.range k).map fun i => (e, i * P.cellsOf e)) 0 cs xs (fun p hpm => by
          obtain ⟨f, hf, rfl⟩ := List.mem_map.1 hpm
          exact hp1) (by rw [hcl]; exact hp2) (by simpa using hxl) (fun i p hi => by
          simp only [List.getElem?_map, Option.map_eq_some_iff] at hi
          obtain ⟨f, hf, rfl⟩ := hi
          obtain ⟨hlt, rfl⟩ := List.getElem?_eq_some_iff.1 hf
          simp at hlt
          simpa using hx i hlt) (by rw [hrep]; exact hw)
      exact ⟨ds, by simpa using r1, by simpa using o1, by rw [hrep] at w1; exact w1, hcl⟩
    · cases hp
end Go.AL
