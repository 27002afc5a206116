import Derived.Test.YtanhkkillmbkhaaZbaF
namespace Go.AL
set_option linter.unusedVariables false
set_option linter.unusedSimpArgs false

/-! ### every order -/
def bindE (e : Edge) : Bool := Region.binds .any e

/-- What an operation waits for. -/
def waitsOf (o : Oper) : List Nat := (o.after.toList.filter bindE).map (·.on)

/-- 'A': whom each one waits for, however far: nothing is claimed too much. -/
def ancOk (ops : List Oper) (A : List Nat) : Bool :=
  (List.range ops.length).all fun j => match ops[j]? with
    | some o => (waitsOf o).all (· < j) && (List.range j).all fun i => !(A.getD j 0).testBit i || (waitsOf o).any fun e => e == i || (decide (i < e) && (A.getD e 0).testBit i)
    | none => true

def flagL (ks : List Kd) (A : List Nat) (i : Nat) : Bool :=
  (List.range ks.length).any fun j => ks.getD j .X == .C && ((i < j && !(A.getD j 0).testBit i) || (j < i && !(A.getD i 0).testBit j))
def flagC (ks : List Kd) (A : List Nat) (i : Nat) : Bool := (List.range ks.length).any fun j => i < j && !(A.getD j 0).testBit i

def dos (ops : List Oper) (A : List Nat) : List DO :=
  let ks := ops.map (kd ·.op)
  ops.zipIdx.map fun (o, i) => ⟨stripO ops o, flagL ks A i, flagC ks A i⟩

def pairsOk (l : List DO) (A : List Nat) : Bool :=
  (List.range l.length).all fun j => (List.range j).all fun i => (A.getD j 0).testBit i || match l[i]?, l[j]? with
    | some x, some y => swapOk x y
    | _, _ => true

section
variable {P : Program} {N : Nat} {T : Env} {σ : St} {K K' : Env → St → Prop} {Q : XA → Env → St → Prop} {B : List Nat}

def aopsD (P : Program) (N : Nat) (B : List Nat) : List DO → (XA → Env → St → Prop) → Env → St → Prop
  | [], Q, T, σ => Q .normal T σ
  | x :: rest, Q, T, σ => dO P N B Q x (aopsD P N B rest Q) T σ

def doAt (P : Program) (N : Nat) (B : List Nat) (Q : XA → Env → St → Prop) (l : List DO) (i : Nat) : Tr := match l[i]? with
  | some x => dO P N B Q x
  | none => fun K T σ => K T σ

/-- All that it waits for is done. -/
def rdy (ops : List Oper) (U : List Nat) (i : Nat) : Prop := ∀ o, ops[i]? = some o → ∀ e ∈ waitsOf o, e ∉ U

def aU (P : Program) (N : Nat) (B : List Nat) (Q : XA → Env → St → Prop) (ops : List Oper) (l : List DO) : Nat → List Nat → Env → St → Prop
  | 0, _, T, σ => good B σ → Q .normal T σ
  | n + 1, U, T, σ => good B σ → ∀ i ∈ U, rdy ops U i → doAt P N B Q l i (aU P N B Q ops l n (U.erase i)) T σ

def Closed (ops : List Oper) (U : List Nat) : Prop := ∀ k, k ∉ U → rdy ops U k

theorem anc_out {ops : List Oper} {A : List Nat} (hA : ancOk ops A = true) {U : List Nat} (hc : Closed ops U) : ∀ j, j < ops.length → (j ∉ U ∨ rdy ops U j) → ∀ i, i < j → (A.getD j 0).testBit i = true → i ∉ U := by
  intro j
  induction j using Nat.strongRecOn with
  | _ j ih =>
    intro hj hr i hi hb
    have hr' : rdy ops U j := hr.elim (hc j) id
    have h1 := List.all_eq_true.1 hA j (List.mem_range.2 hj)
    have ho : ops[j]? = some ops[j] := by simp [hj]
    rw [ho] at h1
    simp only [Bool.and_eq_true] at h1
    have h2 := List.all_eq_true.1 h1.2 i (List.mem_range.2 hi)
    simp only [hb, Bool.not_true, Bool.false_or] at h2
    obtain ⟨e, he, h3⟩ := List.any_eq_true.1 h2
    have heU := hr' _ ho e he
    simp only [Bool.or_eq_true, beq_iff_eq] at h3
    rcases h3 with h3 | h3
    · subst h3; exact heU
    · have hej : e < j := by
        have := List.all_eq_true.1 h1.1 e he
        simpa using this
      simp only [Bool.and_eq_true, decide_eq_true_eq] at h3
      exact ih e hej (by omega) (.inl heU) i h3.1 h3.2

theorem doAt_mono {l : List DO} {i : Nat} (hg : good B σ) (h : doAt P N B Q l i K T σ) (hk : ∀ T' σ', good B σ' → K T' σ' → K' T' σ') : doAt P N B Q l i K' T σ := by
  unfold doAt at h ⊢
  cases hx : l[i]? with
  | some x => rw [hx] at h; exact mono_dop _ _ _ _ hg h fun v σ' _ hg' hK => hk _ _ hg' hK
  | none => rw [hx] at h; exact hk _ _ hg h

theorem delay {ops : List Oper} {A : List Nat} (hA : ancOk ops A = true) {l : List DO} (hl : l.length = ops.length) (hp : pairsOk l A = true) :
    ∀ (n : Nat) (i : Nat) (rest : List Nat) (T : Env) (σ : St), (i :: rest).Pairwise (· < ·) → (∀ j ∈ i :: rest, j < ops.length) → Closed ops (i :: rest) → rdy ops (i :: rest) i → rest.length = n →
      good B σ → doAt P N B Q l i (aU P N B Q ops l n rest) T σ → aU P N B Q ops l (n + 1) (i :: rest) T σ := by
  intro n
  induction n with
  | zero =>
    intro i rest T σ hs hlt hc hr hn hg h _ j hj hrj
    have : rest = [] := List.eq_nil_of_length_eq_zero hn
    subst this
    simp at hj; subst hj
    simpa using h
  | succ n ih =>
    intro i rest T σ hs hlt hc hr hn hg h _ j hj hrj
    by_cases hji : j = i
    · subst hji; simpa using h
    · have hjr : j ∈ rest := by simpa [hji] using hj
      have hij : i < j := (List.pairwise_cons.1 hs).1 j hjr
      have hjl := hlt j hj
      have hnot : (A.getD j 0).testBit i = false := by
        cases hb : (A.getD j 0).testBit i with
        | false => rfl
        | true => exact absurd (List.mem_cons_self) (anc_out hA hc j hjl (.inr hrj) i hij hb)
      have hil : i < l.length := by omega
      have hjl' : j < l.length := by omega
      have hok : swapOk l[i] l[j] = true := by
        have h1 := List.all_eq_true.1 hp j (List.mem_range.2 hjl')
        have h2 := List.all_eq_true.1 h1 i (List.mem_range.2 hij)
        rw [hnot] at h2
        simpa [hil, hjl'] using h2
      have hrj' : rdy ops rest j := fun o ho e he hin => hrj o ho e he (List.mem_cons_of_mem _ hin)
      have herase : (i :: rest).erase j = i :: rest.erase j := by
        rw [List.erase_cons_tail]
        simpa using fun h => hji h.symm
      rw [herase]
      -- i, then j
      have h1 : dO P N B Q l[i] (fun T' σ' => good B σ' → dO P N B Q l[j] (aU P N B Q ops l n (rest.erase j)) T' σ') T σ := by
        have : doAt P N B Q l i = dO P N B Q l[i] := by simp [doAt, hil]
        rw [this] at h
        refine mono_dop _ _ _ _ hg h fun v σ' _ hg' hK hg'' => ?_
        have := hK hg' j hjr hrj'
        simpa [doAt, hjl'] using this
      have h2 := dop_swap hok hg h1
      have h3 : doAt P N B Q l j (fun T' σ' => good B σ' → dO P N B Q l[i] (aU P N B Q ops l n (rest.erase j)) T' σ') T σ := by
        simpa [doAt, hjl'] using h2
      refine doAt_mono hg h3 fun T' σ' hg' hK => ?_
      have hsub : ∀ x ∈ rest.erase j, x ∈ rest := fun x hx => List.mem_of_mem_erase hx
      refine ih i (rest.erase j) T' σ' ?_ ?_ ?_ ?_ ?_ hg' ?_
      · exact List.pairwise_cons.2 ⟨fun x hx => (List.pairwise_cons.1 hs).1 x (hsub x hx), (List.pairwise_cons.1 hs).2.sublist List.erase_sublist⟩
      · intro x hx
        simp only [List.mem_cons] at hx
        rcases hx with rfl | hx
        · exact hlt _ List.mem_cons_self
        · exact hlt x (List.mem_cons_of_mem _ (hsub x hx))
      · intro k hk o ho e he hin
        have hin' : e ∈ i :: rest := by
          simp only [List.mem_cons] at hin ⊢
          exact hin.imp id (hsub e)
        by_cases hkj : k = j
        · subst hkj; exact hrj o ho e he hin'
        · refine hc k (fun hk' => hk ?_) o ho e he hin'
          simp only [List.mem_cons] at hk' ⊢
          exact hk'.imp id fun h => (List.mem_erase_of_ne hkj).2 h
      · exact fun o ho e he hin => hr o ho e he (by
          simp only [List.mem_cons] at hin ⊢
          exact hin.imp id (hsub e))
      · rw [List.length_erase_of_mem hjr]; omega
      · simpa [doAt, hil] using hK hg'

theorem aU_of {ops : List Oper} {A : List Nat} (hA : ancOk ops A = true) {l : List DO} (hl : l.length = ops.length) (hp : pairsOk l A = true) : ∀ (n k : Nat) (T : Env) (σ : St), k + n = ops.length →
    aopsD P N B (l.drop k) Q T σ → aU P N B Q ops l n (List.range' k n) T σ
  | 0, k, T, σ, hk, h => fun _ => by
    have : l.drop k = [] := List.drop_eq_nil_of_le (by omega)
    rw [this] at h
    exact h
  | n + 1, k, T, σ, hk, h => fun hg => by
    have hkl : k < l.length := by omega
    rw [List.drop_eq_getElem_cons hkl] at h
    have h1 : doAt P N B Q l k (aU P N B Q ops l n (List.range' (k + 1) n)) T σ := by
      have : doAt P N B Q l k = dO P N B Q l[k] := by simp [doAt, hkl]
      rw [this]
      exact mono_dop _ _ _ _ hg h fun v σ' _ hg' hK => aU_of hA hl hp n (k + 1) _ _ (by omega) hK
    have hw : ∀ j o, ops[j]? = some o → ∀ e ∈ waitsOf o, e < j := fun j o ho e he => by
      have hj : j < ops.length := (List.getElem?_eq_some_iff.1 ho).1
      have h1 := List.all_eq_true.1 hA j (List.mem_range.2 hj)
      rw [ho] at h1
      simp only [Bool.and_eq_true] at h1
      simpa using List.all_eq_true.1 h1.1 e he
    have hmem : ∀ x, x ∈ k :: List.range' (k + 1) n ↔ k ≤ x ∧ x < k + n + 1 := fun x => by
      rw [← List.range'_succ, List.mem_range'_1]; omega
    have := delay (P := P) (N := N) (B := B) (Q := Q) hA hl hp n k (List.range' (k + 1) n) T σ ?_ ?_ ?_ ?_ (by simp) hg h1
    · rw [List.range'_succ]; exact this hg
    · rw [← List.range'_succ]; exact List.pairwise_lt_range'
    · intro j hj; have := (hmem j).1 hj; omega
    · intro j hj o ho e he hin
      have h2 := hw j o ho e he
      have h3 := (hmem e).1 hin
      have hjl : j < ops.length := (List.getElem?_eq_some_iff.1 ho).1
      exact hj ((hmem j).2 (by omega))
    · intro o ho e he hin
      have h2 := hw k o ho e he
      have h3 := (hmem e).1 hin
      omega

theorem stripO_sound {ops : Array Oper} {o : Oper} {M : MMap} {a : Act} {w : World} (hN : N ≤ 1000000) (x : DO) (hx : x.o = stripO ops.toList o) (h : dO P N B Q x K T σ) (hi : AInv N M T σ a w) {M₀ : MMap} {σ₀ : St} {w₀ : World}
    (hd : ∀ b, M₀ b ≠ none → b < w₀.heap.size) (hk : KeepF M₀ σ₀ w₀ M σ w) {next : Act → World → Prop}
    (hnext : ∀ {M' T' σ' a' w'}, AInv N M' T' σ' a' w' → KeepF M₀ σ₀ w₀ M' σ' w' → K T' σ' → next a' w') :
    if Region.wanted o (yielded ops a.tmps) then o.wp P a w next (Post N M₀ σ₀ w₀ Q) else next (a.put o.dst undef) w := by
  unfold dO dop at h
  have run : dcore P N B x.fl x.st x.o Q K T σ → o.wp P a w next (Post N M₀ σ₀ w₀ Q) := fun hc => by
    have ha := dcore_aop hc
    rw [hx] at ha
    have := aop_sound (o := o) ha hi
    have h1 : o.wp P a w next (Post N M σ w Q) := Oper.wp_mono (fun a' w' ⟨M', T', σ', h1, h2, h3⟩ => hnext h1 (hk.trans hd h2) h3) this
    exact wp_exits h1 fun e a' w' hp => hp.trans hd hk
  have skip : putK N x.o.d (.tup []) K T σ → next (a.put o.dst undef) w := fun hp => by
    have hdst : x.o.d = o.dst := by rw [hx]; rfl
    rw [hdst] at hp
    obtain ⟨M', T', σ', h1, h2, h3⟩ := putK_sound (M := M) (σ := σ) (w := w) (v := undef) hp hi (KeepF.refl _ _ _) ⟨#[], rfl, rfl⟩
    exact hnext h1 (hk.trans hd h2) h3
  have hg : x.o.g = (stripO ops.toList o).g := by rw [hx]
  cases hgd : o.guard with
  | none =>
    have h0 : x.o.g = none := by rw [hg]; simp [stripO, hgd]
    rw [h0] at h
    have hw : Region.wanted o (yielded ops a.tmps) = true := by simp [Region.wanted, hgd]
    rw [hw]
    simp only [if_true]
    exact run h
  | some p =>
    obtain ⟨j, want⟩ := p
    have h0 : x.o.g = some (((ops.toList[j]?).bind (·.dst)).getD 1000000, want) := by rw [hg]; simp [stripO, hgd]
    rw [h0] at h
    simp only at h
    have hga : ∀ c, gq (T (((ops.toList[j]?).bind (·.dst)).getD 1000000)) want = some c → Region.wanted o (yielded ops a.tmps) = c := fun c hc => by
      cases hdst : (ops.toList[j]?).bind (·.dst) with
      | none =>
        rw [hdst] at hc
        have hy : yielded ops a.tmps j = none := by
          have : (ops[j]?).bind (·.dst) = none := by simpa using hdst
          unfold yielded
          simp only [this, Option.bind_none]
        have hno : T 1000000 = .any ∨ ∃ ds, T 1000000 = .tup ds ∨ ∃ b, T 1000000 = .bool b ∨ gq (T 1000000) want = none := by
          cases hT : T 1000000 <;> simp_all [gq]
        have hr := hi.env 1000000
        have hout : a.tmps.getD 1000000 undef = undef := by
          have h9 : a.tmps.size ≤ 1000000 := by rw [hi.size]; exact hN
          simp [Array.getD_eq_getD_getElem?, Array.getElem?_eq_none h9]
        rw [hout] at hr
        simp only [Option.getD_none] at hc
        have hcf : c = false := by
          cases hT : T 1000000 <;> rw [hT] at hc hr <;> simp only [gq, reduceCtorEq, Option.some.injEq] at hc
          · simp only [Rep, undef, reduceCtorEq] at hr
          · exact hc.symm
        simp only [Region.wanted, hgd, hy, hcf]
        rfl
      | some t =>
        rw [hdst] at hc
        refine guardA_sound (T := T) (N := N) (M := M) (σ := σ) (a := a) (w := w) ?_ hi
        unfold guardA
        rw [hgd]
        simp only [hdst]
        exact hc
    cases hT : gq (T (((ops.toList[j]?).bind (·.dst)).getD 1000000)) want <;> rw [hT] at h <;> simp only at h
    rename_i b
    rw [hga b hT]
    cases b
    · rw [br_false] at h
      simp only [Bool.false_eq_true, if_false]
      exact skip h
    · rw [br_true] at h
      simp only [if_true]
      exact run h

/-- The lists that are left, and the marks of those that have been done. -/
def Marks (n : Nat) (listed : Array Bool) (U : List Nat) : Prop := listed.size = n ∧ ∀ j, j < n → (listed.getD j true = false ↔ j ∈ U)

theorem aU_sound {ops : Array Oper} {l : List DO} (hN : N ≤ 1000000) (hl : ∀ (i : Nat) (o : Oper), ops[i]? = some o → ∃ x, l[i]? = some x ∧ x.o = stripO ops.toList o) (hw : ∀ (j : Nat) (o : Oper), ops[j]? = some o → ∀ e ∈ waitsOf o, e < j) {M₀ : MMap} {σ₀ : St} {w₀ : World}
    (hd : ∀ b, M₀ b ≠ none → b < w₀.heap.size) : ∀ (n : Nat) (U : List Nat) (listed : Array Bool) {M : MMap} {T : Env} {σ : St} {a : Act} {w : World}, aU P N B Q ops.toList l n U T σ → U.length = n → U.Nodup → (∀ j ∈ U, j < ops.size) → Marks ops.size listed U →
      AInv N M T σ a w → KeepF M₀ σ₀ w₀ M σ w → good B σ → wpAny P .any ops (Post N M₀ σ₀ w₀ Q) n listed a w := by
  have rdyU : ∀ {U : List Nat} {listed : Array Bool} {i : Nat}, Marks ops.size listed U → (∀ j ∈ U, j < ops.size) → (i ∈ Region.ready .any ops listed ↔ i ∈ U ∧ rdy ops.toList U i) := by
    intro U listed i hm hU
    rw [mem_ready]
    constructor
    · rintro ⟨h1, o, ho, h2⟩
      have hi : i < ops.size := (Array.getElem?_eq_some_iff.1 ho).1
      refine ⟨(hm.2 i hi).1 h1, fun o' ho' e he hin => ?_⟩
      have : o' = o := by
        have : ops.toList[i]? = some o := by simpa using ho
        rw [this] at ho'; exact (Option.some.inj ho').symm
      subst this
      simp only [waitsOf, List.mem_map, List.mem_filter] at he
      obtain ⟨ed, ⟨hed, hb⟩, rfl⟩ := he
      have h3 := h2 ed (by simpa using hed) hb
      have h4 := (hm.2 ed.on (hU _ hin)).2 hin
      have hlt : ed.on < listed.size := by rw [hm.1]; exact hU _ hin
      simp [hlt] at h3 h4
      rw [h3] at h4; cases h4
    · rintro ⟨h1, h2⟩
      have hi := hU i h1
      have ho : ops[i]? = some ops[i] := by simp [hi]
      refine ⟨(hm.2 i hi).2 h1, ops[i], ho, fun ed hed hb => ?_⟩
      have hon : ed.on ∈ waitsOf ops[i] := by
        simp only [waitsOf, List.mem_map, List.mem_filter]
        exact ⟨ed, ⟨by simpa using hed, hb⟩, rfl⟩
      have hlt : ed.on < ops.size := by have := hw i _ ho _ hon; omega
      have hnU := h2 ops[i] (by simp [hi]) ed.on hon
      have h3 : ¬ (listed.getD ed.on true = false) := fun h => hnU ((hm.2 ed.on hlt).1 h)
      have hlt' : ed.on < listed.size := by rw [hm.1]; exact hlt
      simp [hlt'] at h3 ⊢
      exact h3
  intro n
  induction n with
  | zero =>
    intro U listed M T σ a w h hlen hnd hU hm hi hk hg
    have : U = [] := List.eq_nil_of_length_eq_zero hlen
    subst this
    refine ⟨?_, M, T, σ, .normal, rfl, hi, hk, h hg⟩
    apply List.eq_nil_iff_forall_not_mem.2
    intro i hin
    have := ((rdyU hm hU).1 hin).1
    cases this
  | succ n ih =>
    intro U listed M T σ a w h hlen hnd hU hm hi hk hg
    refine ⟨fun hemp => ?_, fun i hin => ?_⟩
    · -- the first one that is left is ready
      exfalso
      have hex : ∃ i, i ∈ U ∧ ∀ j ∈ U, i ≤ j := by
        have hne : U ≠ [] := by intro h0; rw [h0] at hlen; simp at hlen
        have key : ∀ (V : List Nat), V ≠ [] → ∃ i, i ∈ V ∧ ∀ j ∈ V, i ≤ j := by
          intro V
          induction V with
          | nil => intro h; exact absurd rfl h
          | cons v V ihV =>
            intro _
            by_cases hV : V = []
            · subst hV; exact ⟨v, by simp, by simp⟩
            · obtain ⟨i, h1, h2⟩ := ihV hV
              by_cases hvi : v ≤ i
              · refine ⟨v, by simp, fun j hj => ?_⟩
                simp only [List.mem_cons] at hj
                rcases hj with rfl | hj
                · exact Nat.le_refl _
                · exact Nat.le_trans hvi (h2 j hj)
              · refine ⟨i, by simp [h1], fun j hj => ?_⟩
                simp only [List.mem_cons] at hj
                rcases hj with rfl | hj
                · omega
                · exact h2 j hj
        exact key U hne
      obtain ⟨i, h1, h2⟩ := hex
      have : i ∈ Region.ready .any ops listed := (rdyU hm hU).2 ⟨h1, fun o ho e he hin => by
        have h3 := hw i o (by simpa using ho) e he
        have h4 := h2 e hin
        omega⟩
      rw [hemp] at this; cases this
    · obtain ⟨hiU, hri⟩ := (rdyU hm hU).1 hin
      have hil := hU i hiU
      have ho : ops[i]? = some ops[i] := by simp [hil]
      obtain ⟨x, hx, hxo⟩ := hl i _ ho
      have h1 := h hg i hiU hri
      have h2 := doAt_mono (K' := fun T' σ' => good B σ' ∧ aU P N B Q ops.toList l n (U.erase i) T' σ') hg h1 fun T' σ' hg' hK => ⟨hg', hK⟩
      simp only [doAt, hx] at h2
      unfold wpOp
      rw [ho]
      simp only
      have := stripO_sound hN x hxo h2 hi hd hk (next := wpAny P .any ops (Post N M₀ σ₀ w₀ Q) n (listed.setIfInBounds i true)) fun {M' T' σ' a' w'} hi' hk' hK => ?_
      · split
        · rename_i hwn; rw [if_pos hwn] at this; exact .inl this
        · rename_i hwn; rw [if_neg hwn] at this; exact this
      · refine ih (U.erase i) _ hK.2 (by rw [List.length_erase_of_mem hiU]; omega) (hnd.erase i) (fun j hj => hU j (List.mem_of_mem_erase hj)) ⟨by simp [hm.1], fun j hj => ?_⟩ hi' hk' hK.1
        by_cases hji : i = j
        · subst hji
          have hlt : i < listed.size := by rw [hm.1]; exact hil
          simp only [hnd.mem_erase_iff, ne_eq, not_true_eq_false, false_and, iff_false]
          simp [hlt]
        · rw [getD_set_ne true hji, hm.2 j hj, hnd.mem_erase_iff]
          exact ⟨fun h => ⟨Ne.symm hji, h⟩, fun h => h.2⟩

/-- A region that draws its order, walked in the order of the text. -/
theorem awp_draw {id : Nat} {ops : Array Oper} {A : List Nat} (hm : P.follows .mixedOrders = true) (hN : N ≤ 1000000) (hA : ancOk ops.toList A = true) (hp : pairsOk (dos ops.toList A) A = true) (hB : ∀ b ∈ B, σ.box b ≠ none)
    (h : aopsD P N B (dos ops.toList A) Q T σ) : awp P N (.region id ops true) Q T σ := by
  intro M a w hi
  refine wp_region_any hm ?_
  obtain ⟨hi1, hk1⟩ := drew_inv hi.inv
  have hg : good B σ := ⟨⟨w.heap.size, fun b hb hin => by have := hi.inv.dom b (hi.inv.lt hin); omega⟩, hB⟩
  have hlen : (dos ops.toList A).length = ops.toList.length := by simp [dos]
  have hU := aU_of (P := P) (N := N) (B := B) (Q := Q) hA hlen hp ops.toList.length 0 T σ (by omega) (by simpa using h)
  have hw : ∀ (j : Nat) (o : Oper), ops[j]? = some o → ∀ e ∈ waitsOf o, e < j := fun j o ho e he => by
    have hj : j < ops.toList.length := by simpa using (Array.getElem?_eq_some_iff.1 ho).1
    have h1 := List.all_eq_true.1 hA j (List.mem_range.2 hj)
    have ho' : ops.toList[j]? = some o := by simpa using ho
    rw [ho'] at h1
    simp only [Bool.and_eq_true] at h1
    simpa using List.all_eq_true.1 h1.1 e he
  have hlen' : ops.toList.length = ops.size := by simp
  rw [hlen'] at hU
  refine aU_sound hN (fun i o ho => ?_) hw hi.inv.dom ops.size (List.range' 0 ops.size) (Array.replicate ops.size false) hU (by simp) List.nodup_range' (fun j hj => by
    rw [List.mem_range'_1] at hj; omega) ⟨by simp, fun j hj => by simp [hj, List.mem_range'_1]⟩ (hi.keep hk1.toKeep hi1) hk1 hg
  have ho' : ops.toList[i]? = some o := by simpa using ho
  exact ⟨⟨stripO ops.toList o, flagL (ops.toList.map (kd ·.op)) A i, flagC (ops.toList.map (kd ·.op)) A i⟩, by simp [dos, List.getElem?_zipIdx, ho'], rfl⟩
end
end Go.AL
