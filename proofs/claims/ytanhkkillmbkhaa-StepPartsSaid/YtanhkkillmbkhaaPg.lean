import Derived.Test.YtanhkkillmbkhaaPc
import Derived.Test.YtanhkkillmbkhaaPb
import Derived.Test.YtanhkkillmbkhaaCa
import Derived.Test.YtanhkkillmbkhaaPe
import Derived.Test.YtanhkkillmbkhaaLe
import Derived.Test.YtanhkkillmbkhaaTa
namespace Go.AL
open Go.Proofs
set_option linter.unusedSimpArgs false
set_option linter.unusedVariables false
set_option maxRecDepth 100000

theorem upL_len (l : List Cl) : ∀ (n c : Nat), c ≤ n → (upL l c).length ≤ c + 1
  | 0, c, h => by
    unfold upL
    split
    · rw [dif_neg (by omega)]; simp
    · simp
  | n + 1, c, h => by
    unfold upL
    split
    · rename_i x hx
      split
      · rename_i hp
        have := upL_len l n x.parent.toNat (by omega)
        simp; omega
      · simp
    · simp
theorem upI_len {l : List Cl} {c : Int} : (upI l c).length ≤ l.length := by
  unfold upI
  split
  · by_cases h : c.toNat < l.length
    · have := upL_len l c.toNat c.toNat (Nat.le_refl _)
      omega
    · rw [upL, List.getElem?_eq_none (by omega)]; simp
  · simp
theorem upL_lt {l : List Cl} : ∀ (n c : Nat), c ≤ n → ∀ k ∈ upL l c, k < l.length
  | 0, c, h, k, hk => by
    unfold upL at hk
    split at hk
    · rename_i x hx
      rw [dif_neg (by omega)] at hk
      simp at hk; subst hk
      exact (List.getElem?_eq_some_iff.1 hx).1
    · cases hk
  | n + 1, c, h, k, hk => by
    unfold upL at hk
    split at hk
    · rename_i x hx
      simp only [List.mem_cons] at hk
      rcases hk with rfl | hk
      · exact (List.getElem?_eq_some_iff.1 hx).1
      · split at hk
        · rename_i hp; exact upL_lt n _ (by omega) k hk
        · cases hk
    · cases hk
theorem upI_lt {l : List Cl} {c : Int} {k : Nat} (h : k ∈ upI l c) : k < l.length := by
  unfold upI at h
  split at h
  · exact upL_lt _ _ (Nat.le_refl _) k h
  · cases h

def lnB (b5 : Nat) (a : List Nat × Option Nat) : St := ({} : St).set b5 [grD 1 a.2 (rws eI (toI a.1))]
def lnS (b5 : Nat) (a : List Nat × Option Nat) : St := grS 1 a.1.length a.2 (lnB b5 a)
def lnOk (b5 : Nat) (a : List Nat × Option Nat) : Prop := (a.2 = none → a.1.length = 0) ∧ ∀ b, a.2 = some b → b ≠ b5
section
variable {b5 : Nat} {a : List Nat × Option Nat}
theorem lnS_5 : (lnS b5 a).box b5 = some [grD 1 a.2 (rws eI (toI a.1))] := by simp [lnS, lnB, grS_boxa, St.set_box]
theorem lnB_n (h : lnOk b5 a) : grN a.2 (lnB b5 a) := fun b hb hin => by
  have h1 := h.2 b hb
  simp only [lnB, has_set, has_nil, or_false] at hin
  omega
theorem lnB_of {ob : Option Nat} (h : grN ob (lnB b5 a)) {L : List Nat} (h' : ob = none → L.length = 0) : lnOk b5 (L, ob) :=
  ⟨h', fun b hb e => h b hb (by simp [lnB, has_set, e])⟩
theorem lnS_more {σ' : St} {ob : Option Nat} {x : Nat} (hle : St.le (grS 1 (a.1.length + 1) ob (lnB b5 a)) σ') : St.le (lnS b5 (a.1 ++ [x], ob)) (σ'.set b5 [grD 1 ob (rws eI (toI a.1) ++ [[.int .i64 x]])]) := by
  have h := le_set (b := b5) (cs := [grD 1 ob (rws eI (toI (a.1 ++ [x])))]) hle
  rw [grS_set, lnB, set_set] at h
  simp only [lnS, lnB, List.length_append, List.length_cons, List.length_nil, Nat.zero_add]
  rw [show rws eI (toI a.1) ++ [[D.int .i64 x]] = rws eI (toI (a.1 ++ [x])) by simp [rws, eI, toI]]
  exact h
end

theorem toI_len {L : List Nat} : (rws eI (toI L)).length = L.length := by simp [rws, toI]

theorem line204 (b5 c : Nat) (a : List Nat × Option Nat) (ha : lnOk b5 a) (hl : (a.1.length + 1) * 8 ≤ 140737488355328) :
    RCall Try.prog 204 [.int .i64 c, .ptr b5 0] (lnS b5 a) fun d s' => d = .bool true ∧ ∃ ob, s' = lnS b5 (a.1 ++ [c], ob) ∧ lnOk b5 (a.1 ++ [c], ob) := by
  refine F204.rcall rfl fun T hT => ?_
  simp -implicitDefEqProofs only [go_sem, Nat.reduceEqDiff, Nat.reduceLT, Nat.reduceLeDiff, Nat.reduceAdd, Nat.reduceSub, Nat.reduceMul, Nat.reduceBEq, ↓reduceIte, reduceCtorEq, Int.reduceEq, Int.reduceLT, Int.reduceLE, Int.reduceNeg, Int.reduceAdd, Int.reduceSub, Int.reduceToNat, rws_len, vc_cond, c204, hT, lnS_5, frz]
  refine app_gr' Try.sli26 Try.sz3 Try.by3 Try.zero3 rfl (n := a.1.length) (m := 1) (base := lnB b5 a) toI_len rfl (St.le.refl _) (lnB_n ha) ha.1 (by simp) (by omega) fun o' σ' hbox hle hn hno => ?_
  simp -implicitDefEqProofs only [go_sem, Nat.reduceEqDiff, Nat.reduceLT, Nat.reduceLeDiff, Nat.reduceAdd, Nat.reduceSub, Nat.reduceMul, Nat.reduceBEq, ↓reduceIte, reduceCtorEq, Int.reduceEq, Int.reduceLT, Int.reduceLE, Int.reduceNeg, Int.reduceAdd, Int.reduceSub, Int.reduceToNat, rws_len, vc_cond, hT, hbox, lnS_5]
  exact ⟨_, _, DLe.refl _, lnS_more hle, rfl, o', rfl, lnB_of hn (by simpa using hno)⟩

def lnStep (a : List Nat × Option Nat) (c : Nat) (b : Bool) (a' : List Nat × Option Nat) : Prop := b = true ∧ a'.1 = a.1 ++ [c]
theorem ln_runs : ∀ {L : List Nat} {a a' : List Nat × Option Nat}, Runs lnStep L a a' → a'.1 = a.1 ++ L
  | [], a, a', h => by simp only [Runs] at h; subst h; simp
  | c :: L, a, a'', ⟨b, a', ⟨hb, hs⟩, h⟩ => by
    rw [if_pos hb] at h
    rw [ln_runs h, hs]; simp

theorem fields189 (l : List Cl) (o : Own) (c : Int) (hl : l.length * 48 ≤ 140737488351232) (hf : (fieldsOn l (upI l c).reverse).length * 24 ≤ 140737488355328) :
    PCall Try.prog 189 [.slice o (rws eC l), .int .i64 c] (.slice .no (rws eF (fieldsOn l (upI l c).reverse))) := by
  refine F189.pcall' rfl fun T hT => ?_
  simp -implicitDefEqProofs only [go_sem, Nat.reduceEqDiff, Nat.reduceLT, Nat.reduceLeDiff, Nat.reduceAdd, Nat.reduceSub, Nat.reduceMul, Nat.reduceBEq, ↓reduceIte, reduceCtorEq, Int.reduceEq, Int.reduceLT, Int.reduceLE, Int.reduceNeg, Int.reduceAdd, Int.reduceSub, Int.reduceToNat, rws_len, vc_cond, c189, hT]
  intro b5
  have hul := upI_len (l := l) (c := c)
  refine callB_all (σ := lnS b5 ([], none)) (climb144' l o 204 [] [.ptr b5 0] (lnS b5) lnStep (fun a L => lnOk b5 a ∧ a.1.length + L.length ≤ l.length) (by omega) ?_ ([], none) c ?_) ?_
  · rintro a n rest hn ⟨ha, hlen⟩
    simp only [List.length_cons] at hlen
    refine (line204 b5 n a ha (by omega)).mono ?_
    rintro d s' ⟨rfl, ob, rfl, hok⟩
    exact ⟨true, _, rfl, rfl, ⟨rfl, rfl⟩, hok, by simp; omega⟩
  · exact ⟨⟨fun _ => rfl, fun b hb => by cases hb⟩, by simpa using hul⟩
  rintro d s' ⟨rfl, ⟨L, o1⟩, r, rfl, hruns, hok, _⟩
  have hL : L = upI l c := by simpa using ln_runs hruns
  subst hL
  have hlt : ∀ n ∈ upI l c, n < l.length := fun n hn => upI_lt hn
  generalize upI l c = L at *
  clear hruns
  have hlen : (toI L).length = L.length := by simp [toI]
  simp -implicitDefEqProofs only [go_sem, Nat.reduceEqDiff, Nat.reduceLT, Nat.reduceLeDiff, Nat.reduceAdd, Nat.reduceSub, Nat.reduceMul, Nat.reduceBEq, ↓reduceIte, reduceCtorEq, Int.reduceEq, Int.reduceLT, Int.reduceLE, Int.reduceNeg, Int.reduceAdd, Int.reduceSub, Int.reduceToNat, rws_len, vc_cond, hT, lnS_5, hlen]
  refine loopL F189 (fun x : Nat × Option Nat => [(0, .slice o (rws eC l)), (5, .ptr b5 0), (7, .int .i64 ((x.1 : Int) - 1)), (6, grD 2 x.2 (rws eF (fieldsOn l (L.drop x.1).reverse)))]) (fun x => grS 2 (fieldsOn l (L.drop x.1).reverse).length x.2 (lnS b5 (L, o1)))
    (fun x => x.1 ≤ L.length ∧ (x.2 = none → (fieldsOn l (L.drop x.1).reverse).length = 0) ∧ grN x.2 (lnS b5 (L, o1))) (fun x => x.1) (L.length, none)
    ⟨Nat.le_refl _, fun _ => by simp [fieldsOn], grN_none⟩ ?_ (St.le.refl _) ?_
  · simp -implicitDefEqProofs only [go_sem, Nat.reduceEqDiff, Nat.reduceLT, Nat.reduceLeDiff, Nat.reduceAdd, Nat.reduceSub, Nat.reduceMul, Nat.reduceBEq, ↓reduceIte, reduceCtorEq, Int.reduceEq, Int.reduceLT, Int.reduceLE, Int.reduceNeg, Int.reduceAdd, Int.reduceSub, Int.reduceToNat, rws_len, vc_cond, hT, hlen]
    refine ⟨?_, ?_⟩
    · rw [wrap_i64 (by omega) (by omega)]
    · simp [fieldsOn, rws, grD]
  clear hT T
  rintro ⟨k, ob⟩ ⟨hk, hn, hgn⟩ T hT
  simp only at hk hn hgn hT ⊢
  by_cases h : k = 0
  · subst h
    have h1 : ((0 : Int) ≤ (0 : Nat) - 1) = False := by simp
    simp -implicitDefEqProofs only [go_sem, Nat.reduceEqDiff, Nat.reduceLT, Nat.reduceLeDiff, Nat.reduceAdd, Nat.reduceSub, Nat.reduceMul, Nat.reduceBEq, ↓reduceIte, reduceCtorEq, Int.reduceEq, Int.reduceLT, Int.reduceLE, Int.reduceNeg, Int.reduceAdd, Int.reduceSub, Int.reduceToNat, rws_len, vc_cond, hT, h1]
    exact grD_le
  · obtain ⟨i, rfl⟩ : ∃ i, k = i + 1 := ⟨k - 1, by omega⟩
    have h1 : ((i + 1 : Nat) : Int) - 1 = i := by omega
    have h2 : ((0 : Int) ≤ i) = True := by simp
    have hi : i < L.length := by omega
    have hn' : L[i] < l.length := hlt _ (by simp)
    rw [h1] at hT
    simp -implicitDefEqProofs only [go_sem, Nat.reduceEqDiff, Nat.reduceLT, Nat.reduceLeDiff, Nat.reduceAdd, Nat.reduceSub, Nat.reduceMul, Nat.reduceBEq, ↓reduceIte, reduceCtorEq, Int.reduceEq, Int.reduceLT, Int.reduceLE, Int.reduceNeg, Int.reduceAdd, Int.reduceSub, Int.reduceToNat, rws_len, vc_cond, hT, h2, grS_boxa, lnS_5, toI_at hi, hlen, rws_at hn', eC, eC_len]
    refine ⟨by omega, by omega, ?_⟩
    have hsnoc : fieldsOn l (L.drop i).reverse = fieldsOn l (L.drop (i + 1)).reverse ++ l[L[i]].fields := by
      rw [List.drop_eq_getElem_cons hi, List.reverse_cons, fieldsOn_snoc hn']
    have hle := fieldsOn_drop_le (l := l) (L := L) i
    have hsl := congrArg List.length hsnoc
    rw [List.length_append] at hsl
    refine app_gr' Try.sli105 Try.sz110 Try.by110 Try.zero110 rfl (n := (fieldsOn l (L.drop (i + 1)).reverse).length) (m := l[L[i]].fields.length) (by rw [rws_len]) (by rw [rws_len]) (St.le.refl _) hgn hn (by simp [rws, eF_len]) (by omega) fun o' σ' hbox hle' hgn' hno => ?_
    simp -implicitDefEqProofs only [go_sem, Nat.reduceEqDiff, Nat.reduceLT, Nat.reduceLeDiff, Nat.reduceAdd, Nat.reduceSub, Nat.reduceMul, Nat.reduceBEq, ↓reduceIte, reduceCtorEq, Int.reduceEq, Int.reduceLT, Int.reduceLE, Int.reduceNeg, Int.reduceAdd, Int.reduceSub, Int.reduceToNat, rws_len, vc_cond, hT]
    refine ⟨(i, o'), ⟨by omega, by rw [hsl]; exact hno, hgn'⟩, by simp, ⟨?_, ?_⟩, by rw [hsl]; exact hle'⟩
    · rw [wrap_i64 (by omega) (by omega)]
    · rw [hsnoc]; simp [rws]
end Go.AL
namespace Go.AL
open Go.Proofs
set_option linter.unusedSimpArgs false
set_option linter.unusedVariables false
set_option maxRecDepth 100000

structure Ins where
  pos : Int
  op : Ty
  a : Int
  b : Int
  deriving DecidableEq
def eIn (i : Ins) : List D := [.int .i64 i.pos, .int .u8 i.op.val, .int .i64 i.a, .int .i64 i.b]
theorem eIn_len (i : Ins) : (eIn i).length = 4 := rfl

/-- What an entry must be. -/
structure Wn where
  kind : Nat
  t : Ty
def eW (w : Wn) : List D := [.int .i64 w.kind, .int .u8 w.t.val]
theorem eW_len (w : Wn) : (eW w).length = 2 := rfl
/-- What an instruction gives for what it takes. -/
inductive Gv where
  | no | const (l : List Ty) | dup | swap
def eG : Gv → D
  | .no => .nilfunc
  | .const l => .func (.func 184) [] [.eptr [.slice .no (rws eT l)]]
  | .dup => .func (.func 156) [] []
  | .swap => .func (.func 157) [] []
theorem eG_cellQ (g : Gv) : (eG g).cellQ = true := by cases g <;> rfl

theorem of153 (t : Ty) : PCall Try.prog 153 [.int .u8 t.val] (.agg (eW ⟨4, t⟩)) := by
  refine F153.pcall' rfl fun T hT => ?_
  simp -implicitDefEqProofs only [go_sem, Nat.reduceEqDiff, Nat.reduceLT, Nat.reduceLeDiff, Nat.reduceAdd, Nat.reduceSub, Nat.reduceMul, Nat.reduceBEq, ↓reduceIte, reduceCtorEq, Int.reduceEq, Int.reduceLT, Int.reduceLE, Int.reduceNeg, Int.reduceAdd, Int.reduceSub, Int.reduceToNat, rws_len, vc_cond, c153, hT, resM_cell, set_set]
  exact DLe.of_eq rfl

theorem giving154 (x : D) (hx : x.cellQ = true) : PCall Try.prog 154 [x] (.func (.func 184) [] [.eptr [x]]) := by
  refine RCall.freeze (F154.rcall rfl fun T hT => ?_)
  simp -implicitDefEqProofs only [go_sem, Nat.reduceEqDiff, Nat.reduceLT, Nat.reduceLeDiff, Nat.reduceAdd, Nat.reduceSub, Nat.reduceMul, Nat.reduceBEq, ↓reduceIte, reduceCtorEq, Int.reduceEq, Int.reduceLT, Int.reduceLE, Int.reduceNeg, Int.reduceAdd, Int.reduceSub, Int.reduceToNat, rws_len, vc_cond, c154, hT, hx]
  exact fun b => ⟨_, _, DLe.refl _, St.le.refl _, FLe.func .nil (.cons (FLe.box (by simp [St.set_box]) (FLes.refl _)) .nil)⟩

theorem fixed155 (x g : D) (hx : x.cellQ = true) (hg : g.cellQ = true) : PCall Try.prog 155 [x, g] (.func (.func 185) [] [.eptr [x], .eptr [g]]) := by
  refine RCall.freeze (F155.rcall rfl fun T hT => ?_)
  simp -implicitDefEqProofs only [go_sem, Nat.reduceEqDiff, Nat.reduceLT, Nat.reduceLeDiff, Nat.reduceAdd, Nat.reduceSub, Nat.reduceMul, Nat.reduceBEq, ↓reduceIte, reduceCtorEq, Int.reduceEq, Int.reduceLT, Int.reduceLE, Int.reduceNeg, Int.reduceAdd, Int.reduceSub, Int.reduceToNat, rws_len, vc_cond, c155, hT, hx, hg]
  intro b1 b2 n1
  have n2 : ¬ b1 = b2 := fun e => n1 (by simp [has_set, e])
  simp -implicitDefEqProofs only [go_sem, Nat.reduceEqDiff, Nat.reduceLT, Nat.reduceLeDiff, Nat.reduceAdd, Nat.reduceSub, Nat.reduceMul, Nat.reduceBEq, ↓reduceIte, reduceCtorEq, Int.reduceEq, Int.reduceLT, Int.reduceLE, Int.reduceNeg, Int.reduceAdd, Int.reduceSub, Int.reduceToNat, rws_len, vc_cond, hT, n2]
  exact ⟨_, _, DLe.refl _, St.le.refl _, FLe.func .nil (.cons (FLe.box (by simp [St.set_box, n2]) (FLes.refl _)) (.cons (FLe.box (by simp [St.set_box]) (FLes.refl _)) .nil))⟩

theorem classed161 (x : D) (hx : x.cellQ = true) (c : Bool) : PCall Try.prog 161 [x, .bool c] (.func (.func 186) [] [.eptr [.bool c], .eptr [x]]) := by
  refine RCall.freeze (F161.rcall rfl fun T hT => ?_)
  simp -implicitDefEqProofs only [go_sem, Nat.reduceEqDiff, Nat.reduceLT, Nat.reduceLeDiff, Nat.reduceAdd, Nat.reduceSub, Nat.reduceMul, Nat.reduceBEq, ↓reduceIte, reduceCtorEq, Int.reduceEq, Int.reduceLT, Int.reduceLE, Int.reduceNeg, Int.reduceAdd, Int.reduceSub, Int.reduceToNat, rws_len, vc_cond, c161, hT, hx]
  intro b1 b2 n1 n2
  exact ⟨_, _, DLe.refl _, St.le.refl _, FLe.func .nil (.cons (FLe.box (by simp [St.set_box]) (FLes.refl _)) (.cons (FLe.box (by simp [St.set_box, n1, n2]) (FLes.refl _)) .nil))⟩

theorem field162 (c : Bool) : PCall Try.prog 162 [.bool c] (.func (.func 188) [] [.eptr [.bool c]]) := by
  refine RCall.freeze (F162.rcall rfl fun T hT => ?_)
  simp -implicitDefEqProofs only [go_sem, Nat.reduceEqDiff, Nat.reduceLT, Nat.reduceLeDiff, Nat.reduceAdd, Nat.reduceSub, Nat.reduceMul, Nat.reduceBEq, ↓reduceIte, reduceCtorEq, Int.reduceEq, Int.reduceLT, Int.reduceLE, Int.reduceNeg, Int.reduceAdd, Int.reduceSub, Int.reduceToNat, rws_len, vc_cond, c162, hT]
  exact fun b => ⟨_, _, DLe.refl _, St.le.refl _, FLe.func .nil (.cons (FLe.box (by simp [St.set_box]) (FLes.refl _)) .nil)⟩

theorem class187 (n : Nat) (h : n < 32) : PCall Try.prog 187 [.int .i64 n] (.int .u8 (((⟨16 + n, by omega⟩ : Ty)).val : Int)) := by
  refine F187.pcall' rfl fun T hT => ?_
  have h1 : IntKind.wrap .u8 (n : Int) = n := wrap_u8 (by omega) (by omega)
  have h2 : IntKind.wrap .u8 (16 + (n : Int)) = 16 + n := wrap_u8 (by omega) (by omega)
  simp -implicitDefEqProofs only [go_sem, Nat.reduceEqDiff, Nat.reduceLT, Nat.reduceLeDiff, Nat.reduceAdd, Nat.reduceSub, Nat.reduceMul, Nat.reduceBEq, ↓reduceIte, reduceCtorEq, Int.reduceEq, Int.reduceLT, Int.reduceLE, Int.reduceNeg, Int.reduceAdd, Int.reduceSub, Int.reduceToNat, rws_len, vc_cond, c187, hT, h1, h2]
  exact DLe.of_eq (by simp)

theorem gives184 (x y : D) : PCall Try.prog 184 [y, .eptr [x]] x := by
  refine F184.pcall' rfl fun T hT => ?_
  simp -implicitDefEqProofs only [go_sem, Nat.reduceEqDiff, Nat.reduceLT, Nat.reduceLeDiff, Nat.reduceAdd, Nat.reduceSub, Nat.reduceMul, Nat.reduceBEq, ↓reduceIte, reduceCtorEq, Int.reduceEq, Int.reduceLT, Int.reduceLE, Int.reduceNeg, Int.reduceAdd, Int.reduceSub, Int.reduceToNat, rws_len, vc_cond, c184, hT]

theorem dup156 (l : List Ty) (o : Own) (h : 0 < l.length) : PCall Try.prog 156 [.slice o (rws eT l)] (.slice .no (rws eT [l[0], l[0]])) := by
  refine F156.pcall' rfl fun T hT => ?_
  have h0 : (rws eT l)[0]?.getD [] = eT l[0] := rws_at h
  simp -implicitDefEqProofs only [go_sem, Nat.reduceEqDiff, Nat.reduceLT, Nat.reduceLeDiff, Nat.reduceAdd, Nat.reduceSub, Nat.reduceMul, Nat.reduceBEq, ↓reduceIte, reduceCtorEq, Int.reduceEq, Int.reduceLT, Int.reduceLE, Int.reduceNeg, Int.reduceAdd, Int.reduceSub, Int.reduceToNat, rws_len, vc_cond, c156, hT, h0, eT, eT_len, frz]
  refine ⟨by omega, by omega, ?_⟩
  exact DLe.slice _ _

theorem swap157 (l : List Ty) (o : Own) (h : 1 < l.length) : PCall Try.prog 157 [.slice o (rws eT l)] (.slice .no (rws eT [l[1], l[0]])) := by
  refine F157.pcall' rfl fun T hT => ?_
  have h0 : (rws eT l)[0]?.getD [] = eT l[0] := rws_at (by omega)
  have h1 : (rws eT l)[1]?.getD [] = eT l[1] := rws_at h
  simp -implicitDefEqProofs only [go_sem, Nat.reduceEqDiff, Nat.reduceLT, Nat.reduceLeDiff, Nat.reduceAdd, Nat.reduceSub, Nat.reduceMul, Nat.reduceBEq, ↓reduceIte, reduceCtorEq, Int.reduceEq, Int.reduceLT, Int.reduceLE, Int.reduceNeg, Int.reduceAdd, Int.reduceSub, Int.reduceToNat, rws_len, vc_cond, c157, hT, h0, h1, eT, eT_len, frz]
  refine ⟨by omega, by omega, ?_⟩
  exact DLe.slice _ _

/-- What an instruction takes (the last one from the top), and what it gives. -/
structure Ef where
  takes : List Wn
  gives : Gv
def eEf (f : Ef) : List D := [.slice .no (rws eW f.takes), eG f.gives]
def ef0 : Ef := ⟨[], .no⟩

theorem tell185 (e i x g : D) (es is : List D) (he : e = .agg es) (hi : i = .agg is) (h1 : es.length = 3) (h2 : is.length = 4) (hx : x.cellQ = true) (hg : g.cellQ = true) :
    PCall Try.prog 185 [e, i, .eptr [x], .eptr [g]] (.tup [.agg [x, g], .int .i64 0]) := by
  subst he; subst hi
  refine F185.pcall' rfl fun T hT => ?_
  simp -implicitDefEqProofs only [go_sem, Nat.reduceEqDiff, Nat.reduceLT, Nat.reduceLeDiff, Nat.reduceAdd, Nat.reduceSub, Nat.reduceMul, Nat.reduceBEq, ↓reduceIte, reduceCtorEq, Int.reduceEq, Int.reduceLT, Int.reduceLE, Int.reduceNeg, Int.reduceAdd, Int.reduceSub, Int.reduceToNat, rws_len, vc_cond, c185, hT, h1, h2, hx, hg]
  intro b1 b2 n1 n2 b3 m1 m2 m3 m4
  simp -implicitDefEqProofs only [go_sem, Nat.reduceEqDiff, Nat.reduceLT, Nat.reduceLeDiff, Nat.reduceAdd, Nat.reduceSub, Nat.reduceMul, Nat.reduceBEq, ↓reduceIte, reduceCtorEq, Int.reduceEq, Int.reduceLT, Int.reduceLE, Int.reduceNeg, Int.reduceAdd, Int.reduceSub, Int.reduceToNat, rws_len, vc_cond, hT, hx, hg, resM_cell, set_set, m1, m2, m3, m4]

theorem res160 (t : Ty) : PCall Try.prog 160 [.int .u8 t.val] (.slice .no (rws eW (if t.val = 0 then [] else [⟨4, t⟩]))) := by
  refine F160.pcall' rfl fun T hT => ?_
  by_cases h : t.val = 0
  · have h1 : (t.val : Int) = 0 := by omega
    simp -implicitDefEqProofs only [go_sem, Nat.reduceEqDiff, Nat.reduceLT, Nat.reduceLeDiff, Nat.reduceAdd, Nat.reduceSub, Nat.reduceMul, Nat.reduceBEq, ↓reduceIte, reduceCtorEq, Int.reduceEq, Int.reduceLT, Int.reduceLE, Int.reduceNeg, Int.reduceAdd, Int.reduceSub, Int.reduceToNat, rws_len, vc_cond, c160, hT, h1]
    rw [if_pos h]
    exact DLe.slice _ _
  · have h1 : ¬ (t.val : Int) = 0 := by omega
    simp -implicitDefEqProofs only [go_sem, Nat.reduceEqDiff, Nat.reduceLT, Nat.reduceLeDiff, Nat.reduceAdd, Nat.reduceSub, Nat.reduceMul, Nat.reduceBEq, ↓reduceIte, reduceCtorEq, Int.reduceEq, Int.reduceLT, Int.reduceLE, Int.reduceNeg, Int.reduceAdd, Int.reduceSub, Int.reduceToNat, rws_len, vc_cond, c160, hT, h1]
    refine callB_pure (of153 t) ?_
    simp -implicitDefEqProofs only [go_sem, Nat.reduceEqDiff, Nat.reduceLT, Nat.reduceLeDiff, Nat.reduceAdd, Nat.reduceSub, Nat.reduceMul, Nat.reduceBEq, ↓reduceIte, reduceCtorEq, Int.reduceEq, Int.reduceLT, Int.reduceLE, Int.reduceNeg, Int.reduceAdd, Int.reduceSub, Int.reduceToNat, rws_len, vc_cond, hT, eW, frz]
    rw [if_neg h]
    exact DLe.slice _ _

theorem tell159 (e : En) (i : Ins) (g : D) (hg : g.cellQ = true) (h : 0 ≤ e.fn) (h2 : e.fn.toNat < e.sgs.length) :
    PCall Try.prog 159 [.agg (eEn e), .agg (eIn i), .eptr [g]] (.tup [.agg [.slice .no (rws eW (if e.sgs[e.fn.toNat].r.val = 0 then [] else [⟨4, e.sgs[e.fn.toNat].r⟩])), g], .int .i64 0]) := by
  obtain ⟨k, hk⟩ : ∃ k : Nat, e.fn = k := ⟨e.fn.toNat, by omega⟩
  have hkl : k < e.sgs.length := by omega
  have hR : (rws eSg e.sgs)[k]?.getD [] = eSg e.sgs[k] := rws_at hkl
  have hk' : e.fn.toNat = k := by omega
  simp only [hk']
  generalize e.sgs[k] = s at *
  refine F159.pcall' rfl fun T hT => ?_
  simp -implicitDefEqProofs only [go_sem, Nat.reduceEqDiff, Nat.reduceLT, Nat.reduceLeDiff, Nat.reduceAdd, Nat.reduceSub, Nat.reduceMul, Nat.reduceBEq, ↓reduceIte, reduceCtorEq, Int.reduceEq, Int.reduceLT, Int.reduceLE, Int.reduceNeg, Int.reduceAdd, Int.reduceSub, Int.reduceToNat, rws_len, vc_cond, c159, hT, eEn, eIn, hk]
  intro b1 b2 n1 n2 b3 m1 m2 m3 m4
  simp -implicitDefEqProofs only [go_sem, Nat.reduceEqDiff, Nat.reduceLT, Nat.reduceLeDiff, Nat.reduceAdd, Nat.reduceSub, Nat.reduceMul, Nat.reduceBEq, ↓reduceIte, reduceCtorEq, Int.reduceEq, Int.reduceLT, Int.reduceLE, Int.reduceNeg, Int.reduceAdd, Int.reduceSub, Int.reduceToNat, rws_len, vc_cond, hT, resM_cell, set_set, m1, m2, m3, m4, n1, n2, eEn, hk, hR, eSg, eSg_len]
  refine ⟨by omega, ?_⟩
  refine callB_pure (res160 s.r) ?_
  simp -implicitDefEqProofs only [go_sem, Nat.reduceEqDiff, Nat.reduceLT, Nat.reduceLeDiff, Nat.reduceAdd, Nat.reduceSub, Nat.reduceMul, Nat.reduceBEq, ↓reduceIte, reduceCtorEq, Int.reduceEq, Int.reduceLT, Int.reduceLE, Int.reduceNeg, Int.reduceAdd, Int.reduceSub, Int.reduceToNat, rws_len, vc_cond, hT, hg, resM_cell, set_set, m1, m2, m3, m4, n1, n2]
end Go.AL
namespace Go.AL
open Go.Proofs
set_option linter.unusedSimpArgs false
set_option linter.unusedVariables false
set_option maxRecDepth 100000

/-- The environment's tables are right. -/
structure Can (e : En) : Prop where
  wide : WideE e
  right : Right isWordB e.cs e.cs.length
  fn0 : 0 ≤ e.fn
  fn1 : e.fn.toNat < e.sgs.length
  sigs : ∀ s ∈ e.sgs, s.ps.length ≤ 8
theorem Can.cls {e : En} (h : Can e) : e.cs.length ≤ 32 := by
  by_cases h0 : e.cs.length = 0
  · omega
  · have := (h.right.at (i := e.cs.length - 1) (by omega) (by omega)).1
    omega
theorem Can.flds {e : En} (h : Can e) (c : Int) : (fieldsOn e.cs (upI e.cs c).reverse).length ≤ 32 := by
  rw [fieldsOn_len]
  by_cases hc : c < e.cs.length
  · have := namesUp_len h.right c hc
    simpa [namesUp] using this
  · rw [upI_out (by omega)]; simp [fieldsOn]

theorem DLe_gives {o : Own} {es : List (List D)} {l : List Ty} (h : es = rws eT l) : DLe (.func (.func 184) [] [.eptr [.slice o es]]) (eG (.const l)) := by
  subst h; exact DLe.func .nil (.cons (DLe.eptr (.cons (DLe.slice _ _) .nil)) .nil)
theorem DLe_ef {x g x' g' : D} {n : Int} (h1 : DLe x x') (h2 : DLe g g') : DLe (.tup [.agg [x, g], .int .i64 n]) (.tup [.agg [x', g'], .int .i64 n]) :=
  DLe.tup (.cons (DLe.agg (.cons h1 (.cons h2 .nil))) (.cons (.refl _) .nil))

def ofClass (a : Int) : Ty := Fin.ofNat 256 (16 + a.toNat)

theorem tell186 (e : En) (i : Ins) (x : D) (c : Bool) (hx : x.cellQ = true) (h32 : e.cs.length ≤ 32) :
    PCall Try.prog 186 [.agg (eEn e), .agg (eIn i), .eptr [.bool c], .eptr [x]] (if i.a < 0 ∨ (e.cs.length : Int) ≤ i.a then .tup [.agg (eEf ef0), .int .i64 72] else .tup [.agg [x, eG (.const [if c then ofClass i.a else 2])], .int .i64 0]) := by
  refine F186.pcall' rfl fun T hT => ?_
  simp -implicitDefEqProofs only [go_sem, Nat.reduceEqDiff, Nat.reduceLT, Nat.reduceLeDiff, Nat.reduceAdd, Nat.reduceSub, Nat.reduceMul, Nat.reduceBEq, ↓reduceIte, reduceCtorEq, Int.reduceEq, Int.reduceLT, Int.reduceLE, Int.reduceNeg, Int.reduceAdd, Int.reduceSub, Int.reduceToNat, rws_len, vc_cond, c186, hT, eEn, eIn]
  intro b1 b2 n1 n2 b3 m1 m2 m3 m4
  by_cases h : i.a < 0 ∨ (e.cs.length : Int) ≤ i.a
  · have hc : (decide (i.a < 0) || decide ((e.cs.length : Int) ≤ i.a)) = true := by simpa using h
    simp -implicitDefEqProofs only [go_sem, Nat.reduceEqDiff, Nat.reduceLT, Nat.reduceLeDiff, Nat.reduceAdd, Nat.reduceSub, Nat.reduceMul, Nat.reduceBEq, ↓reduceIte, reduceCtorEq, Int.reduceEq, Int.reduceLT, Int.reduceLE, Int.reduceNeg, Int.reduceAdd, Int.reduceSub, Int.reduceToNat, rws_len, vc_condQ, w_guardO, ite_and, ite_or, ite_nor, ite_nand, ite_aor, ite_aand, ite_same, gm_move, gm_assign, gm_pick, gm_bin_t, gm_bin_i, gm_bin_b, gm_bin_s, gm_un, gm_conv, gm_iface, gm_func, gm_extract, gm_field, gm_faddr, gm_iaddr, gm_idx, gm_nilc, gm_len, gm_slice, gm_load, hT, hx, resM_cell, set_set, m1, m2, m3, m4, n1, n2, hc]
    rw [if_pos h]
    exact DLe_ef (DLe.slice _ _) (.refl _)
  · have hc : (decide (i.a < 0) || decide ((e.cs.length : Int) ≤ i.a)) = false := by simpa using h
    obtain ⟨k, hk⟩ : ∃ k : Nat, i.a = k := ⟨i.a.toNat, by omega⟩
    have hkc : ofClass i.a = (⟨16 + k, by omega⟩ : Ty) := by
      rw [hk]; ext; simp [ofClass]; omega
    rw [if_neg h]
    cases c
    · simp -implicitDefEqProofs only [go_sem, Nat.reduceEqDiff, Nat.reduceLT, Nat.reduceLeDiff, Nat.reduceAdd, Nat.reduceSub, Nat.reduceMul, Nat.reduceBEq, ↓reduceIte, reduceCtorEq, Int.reduceEq, Int.reduceLT, Int.reduceLE, Int.reduceNeg, Int.reduceAdd, Int.reduceSub, Int.reduceToNat, rws_len, vc_condQ, w_guardO, ite_and, ite_or, ite_nor, ite_nand, ite_aor, ite_aand, ite_same, gm_move, gm_assign, gm_pick, gm_bin_t, gm_bin_i, gm_bin_b, gm_bin_s, gm_un, gm_conv, gm_iface, gm_func, gm_extract, gm_field, gm_faddr, gm_iaddr, gm_idx, gm_nilc, gm_len, gm_slice, gm_load, hT, hx, resM_cell, set_set, m1, m2, m3, m4, n1, n2, hc, frz]
      refine callB_pure (giving154 _ rfl) ?_
      simp -implicitDefEqProofs only [go_sem, Nat.reduceEqDiff, Nat.reduceLT, Nat.reduceLeDiff, Nat.reduceAdd, Nat.reduceSub, Nat.reduceMul, Nat.reduceBEq, ↓reduceIte, reduceCtorEq, Int.reduceEq, Int.reduceLT, Int.reduceLE, Int.reduceNeg, Int.reduceAdd, Int.reduceSub, Int.reduceToNat, rws_len, vc_condQ, w_guardO, ite_and, ite_or, ite_nor, ite_nand, ite_aor, ite_aand, ite_same, gm_move, gm_assign, gm_pick, gm_bin_t, gm_bin_i, gm_bin_b, gm_bin_s, gm_un, gm_conv, gm_iface, gm_func, gm_extract, gm_field, gm_faddr, gm_iaddr, gm_idx, gm_nilc, gm_len, gm_slice, gm_load, hT, hx, resM_cell, set_set, m1, m2, m3, m4, n1, n2]
      exact DLe_ef (.refl _) (DLe_gives rfl)
    · simp -implicitDefEqProofs only [go_sem, Nat.reduceEqDiff, Nat.reduceLT, Nat.reduceLeDiff, Nat.reduceAdd, Nat.reduceSub, Nat.reduceMul, Nat.reduceBEq, ↓reduceIte, reduceCtorEq, Int.reduceEq, Int.reduceLT, Int.reduceLE, Int.reduceNeg, Int.reduceAdd, Int.reduceSub, Int.reduceToNat, rws_len, vc_condQ, w_guardO, ite_and, ite_or, ite_nor, ite_nand, ite_aor, ite_aand, ite_same, gm_move, gm_assign, gm_pick, gm_bin_t, gm_bin_i, gm_bin_b, gm_bin_s, gm_un, gm_conv, gm_iface, gm_func, gm_extract, gm_field, gm_faddr, gm_iaddr, gm_idx, gm_nilc, gm_len, gm_slice, gm_load, hT, hx, resM_cell, set_set, m1, m2, m3, m4, n1, n2, hc]
      rw [hk]
      refine callB_pure (class187 k (by omega)) ?_
      simp -implicitDefEqProofs only [go_sem, Nat.reduceEqDiff, Nat.reduceLT, Nat.reduceLeDiff, Nat.reduceAdd, Nat.reduceSub, Nat.reduceMul, Nat.reduceBEq, ↓reduceIte, reduceCtorEq, Int.reduceEq, Int.reduceLT, Int.reduceLE, Int.reduceNeg, Int.reduceAdd, Int.reduceSub, Int.reduceToNat, rws_len, vc_condQ, w_guardO, ite_and, ite_or, ite_nor, ite_nand, ite_aor, ite_aand, ite_same, gm_move, gm_assign, gm_pick, gm_bin_t, gm_bin_i, gm_bin_b, gm_bin_s, gm_un, gm_conv, gm_iface, gm_func, gm_extract, gm_field, gm_faddr, gm_iaddr, gm_idx, gm_nilc, gm_len, gm_slice, gm_load, hT, hx, resM_cell, set_set, m1, m2, m3, m4, n1, n2, frz]
      refine callB_pure (giving154 _ rfl) ?_
      simp -implicitDefEqProofs only [go_sem, Nat.reduceEqDiff, Nat.reduceLT, Nat.reduceLeDiff, Nat.reduceAdd, Nat.reduceSub, Nat.reduceMul, Nat.reduceBEq, ↓reduceIte, reduceCtorEq, Int.reduceEq, Int.reduceLT, Int.reduceLE, Int.reduceNeg, Int.reduceAdd, Int.reduceSub, Int.reduceToNat, rws_len, vc_condQ, w_guardO, ite_and, ite_or, ite_nor, ite_nand, ite_aor, ite_aand, ite_same, gm_move, gm_assign, gm_pick, gm_bin_t, gm_bin_i, gm_bin_b, gm_bin_s, gm_un, gm_conv, gm_iface, gm_func, gm_extract, gm_field, gm_faddr, gm_iaddr, gm_idx, gm_nilc, gm_len, gm_slice, gm_load, hT, hx, resM_cell, set_set, m1, m2, m3, m4, n1, n2]
      rw [← hk, hkc]
      exact DLe_ef (.refl _) (DLe_gives rfl)

theorem tell158 (e : En) (i : Ins) (hc : Can e) :
    PCall Try.prog 158 [.agg (eEn e), .agg (eIn i)] (if h : 0 ≤ i.a ∧ i.a.toNat < e.sgs.length then .tup [.agg [.slice .no (rws eW (e.sgs[i.a.toNat].ps.map fun t => ⟨4, t⟩)), eG (.const (if e.sgs[i.a.toNat].r.val = 0 then [] else [e.sgs[i.a.toNat].r]))], .int .i64 0] else .tup [.agg (eEf ef0), .int .i64 71]) := by
  refine F158.pcall' rfl fun T hT => ?_
  simp -implicitDefEqProofs only [go_sem, Nat.reduceEqDiff, Nat.reduceLT, Nat.reduceLeDiff, Nat.reduceAdd, Nat.reduceSub, Nat.reduceMul, Nat.reduceBEq, ↓reduceIte, reduceCtorEq, Int.reduceEq, Int.reduceLT, Int.reduceLE, Int.reduceNeg, Int.reduceAdd, Int.reduceSub, Int.reduceToNat, rws_len, vc_cond, c158, hT, eEn, eIn]
  intro b1 b2 n1 n2 b3 m1 m2 m3 m4
  by_cases h : 0 ≤ i.a ∧ i.a.toNat < e.sgs.length
  case neg =>
    have hq : (decide (i.a < 0) || decide ((e.sgs.length : Int) ≤ i.a)) = true := by simp; omega
    simp -implicitDefEqProofs only [go_sem, Nat.reduceEqDiff, Nat.reduceLT, Nat.reduceLeDiff, Nat.reduceAdd, Nat.reduceSub, Nat.reduceMul, Nat.reduceBEq, ↓reduceIte, reduceCtorEq, Int.reduceEq, Int.reduceLT, Int.reduceLE, Int.reduceNeg, Int.reduceAdd, Int.reduceSub, Int.reduceToNat, rws_len, vc_condQ, w_guardO, ite_and, ite_or, ite_nor, ite_nand, ite_aor, ite_aand, ite_same, gm_move, gm_assign, gm_pick, gm_bin_t, gm_bin_i, gm_bin_b, gm_bin_s, gm_un, gm_conv, gm_iface, gm_func, gm_extract, gm_field, gm_faddr, gm_iaddr, gm_idx, gm_nilc, gm_len, gm_slice, gm_load, hT, resM_cell, set_set, m1, m2, m3, m4, n1, n2, hq]
    rw [dif_neg h]
    exact DLe_ef (DLe.slice _ _) (.refl _)
  have hq : (decide (i.a < 0) || decide ((e.sgs.length : Int) ≤ i.a)) = false := by simp; omega
  rw [dif_pos h]
  obtain ⟨k, hk⟩ : ∃ k : Nat, i.a = k := ⟨i.a.toNat, by omega⟩
  have hkl : k < e.sgs.length := by omega
  have hR : (rws eSg e.sgs)[k]?.getD [] = eSg e.sgs[k] := rws_at hkl
  have h8 := hc.sigs e.sgs[k] (by simp)
  have hkn : i.a.toNat = k := by omega
  simp only [hkn]
  rw [hk] at hq
  generalize e.sgs[k] = s at *
  simp -implicitDefEqProofs only [go_sem, Nat.reduceEqDiff, Nat.reduceLT, Nat.reduceLeDiff, Nat.reduceAdd, Nat.reduceSub, Nat.reduceMul, Nat.reduceBEq, ↓reduceIte, reduceCtorEq, Int.reduceEq, Int.reduceLT, Int.reduceLE, Int.reduceNeg, Int.reduceAdd, Int.reduceSub, Int.reduceToNat, rws_len, vc_condQ, w_guardO, ite_and, ite_or, ite_nor, ite_nand, ite_aor, ite_aand, ite_same, gm_move, gm_assign, gm_pick, gm_bin_t, gm_bin_i, gm_bin_b, gm_bin_s, gm_un, gm_conv, gm_iface, gm_func, gm_extract, gm_field, gm_faddr, gm_iaddr, gm_idx, gm_nilc, gm_len, gm_slice, gm_load, hT, resM_cell, set_set, m1, m2, m3, m4, n1, n2, hk, hq, hR, eSg, eSg_len]
  refine ⟨by omega, fun b4 k1 k2 k3 k4 k5 k6 => ?_⟩
  have hbase : St.le ((({} : St).set b3 [.slice .nil [], .nilfunc]).set b4 (eSg s)) (((((({} : St).set b1 [.slice .no (rws eC e.cs), .slice .no (rws eSg e.sgs), .int .i64 e.fn]).set b2 (eIn i)).set b3 [.slice .nil [], .nilfunc])).set b4 (eSg s)) := le_set (le_set (St.le.nil _))
  refine loopL F158 (fun x : Nat × Option Nat => [(4, .ptr b3 0), (6, .ptr b4 0), (7, grD 2 x.2 (rws eW ((s.ps.take x.1).map fun t => ⟨4, t⟩))), (29, .slice .no (rws eT s.ps)), (30, .int .i64 s.ps.length), (31, .int .i64 x.1)]) (fun x => grS 2 x.1 x.2 ((({} : St).set b3 [.slice .nil [], .nilfunc]).set b4 (eSg s)))
    (fun x => x.1 ≤ s.ps.length ∧ (x.2 = none → x.1 = 0) ∧ grN x.2 ((({} : St).set b3 [.slice .nil [], .nilfunc]).set b4 (eSg s))) (fun x => s.ps.length - x.1) (0, none)
    ⟨Nat.zero_le _, fun _ => rfl, grN_none⟩ ?_ (le_set (le_set (St.le.nil _))) ?_
  · simp -implicitDefEqProofs only [go_sem, Nat.reduceEqDiff, Nat.reduceLT, Nat.reduceLeDiff, Nat.reduceAdd, Nat.reduceSub, Nat.reduceMul, Nat.reduceBEq, ↓reduceIte, reduceCtorEq, Int.reduceEq, Int.reduceLT, Int.reduceLE, Int.reduceNeg, Int.reduceAdd, Int.reduceSub, Int.reduceToNat, rws_len, vc_condQ, w_guardO, ite_and, ite_or, ite_nor, ite_nand, ite_aor, ite_aand, ite_same, gm_move, gm_assign, gm_pick, gm_bin_t, gm_bin_i, gm_bin_b, gm_bin_s, gm_un, gm_conv, gm_iface, gm_func, gm_extract, gm_field, gm_faddr, gm_iaddr, gm_idx, gm_nilc, gm_len, gm_slice, gm_load, hT, Int.ofNat_zero]
    rfl
  clear hT T
  rintro ⟨j, ob⟩ ⟨hj, hn, hg⟩ T hT
  simp only at hj hn hg hT ⊢
  by_cases h2 : j < s.ps.length
  · have h3 : ((j : Int) < s.ps.length) = True := by simp; omega
    have htake : s.ps.take (j + 1) = s.ps.take j ++ [s.ps[j]] := List.take_succ_eq_append_getElem h2
    have hRt : (rws eT s.ps)[j]?.getD [] = eT s.ps[j] := rws_at h2
    generalize s.ps[j] = t at *
    have hlj : (rws eW ((s.ps.take j).map fun t => (⟨4, t⟩ : Wn))).length = j := by simp [rws]; omega
    simp -implicitDefEqProofs only [go_sem, Nat.reduceEqDiff, Nat.reduceLT, Nat.reduceLeDiff, Nat.reduceAdd, Nat.reduceSub, Nat.reduceMul, Nat.reduceBEq, ↓reduceIte, reduceCtorEq, Int.reduceEq, Int.reduceLT, Int.reduceLE, Int.reduceNeg, Int.reduceAdd, Int.reduceSub, Int.reduceToNat, rws_len, vc_cond, hT, h3, hRt, eT, eT_len]
    refine ⟨by omega, callB_pure (of153 t) ?_⟩
    simp -implicitDefEqProofs only [go_sem, Nat.reduceEqDiff, Nat.reduceLT, Nat.reduceLeDiff, Nat.reduceAdd, Nat.reduceSub, Nat.reduceMul, Nat.reduceBEq, ↓reduceIte, reduceCtorEq, Int.reduceEq, Int.reduceLT, Int.reduceLE, Int.reduceNeg, Int.reduceAdd, Int.reduceSub, Int.reduceToNat, rws_len, vc_cond, hT, eW, frz]
    refine app_gr' Try.sli128 Try.sz188 Try.by188 Try.zero188 rfl (n := j) (m := 1) hlj rfl (St.le.refl _) hg hn (by simp) (by omega) fun o' σ' hbox hle hgn hno => ?_
    simp -implicitDefEqProofs only [go_sem, Nat.reduceEqDiff, Nat.reduceLT, Nat.reduceLeDiff, Nat.reduceAdd, Nat.reduceSub, Nat.reduceMul, Nat.reduceBEq, ↓reduceIte, reduceCtorEq, Int.reduceEq, Int.reduceLT, Int.reduceLE, Int.reduceNeg, Int.reduceAdd, Int.reduceSub, Int.reduceToNat, rws_len, vc_cond, hT]
    refine ⟨(j + 1, o'), ⟨by omega, by simpa using hno, hgn⟩, by omega, ⟨?_, ?_⟩, hle⟩
    · rw [htake]; simp [rws, eW]
    · rw [wrap_i64 (by omega) (by omega)]; simp
  · have h3 : ((j : Int) < s.ps.length) = False := by simp; omega
    have hx : ∀ σ : St, (grS 2 j ob σ).box = σ.box := fun _ => grS_box
    by_cases h0 : s.r.val = 0
    · have h0' : (s.r.val : Int) = 0 := by omega
      simp -implicitDefEqProofs only [go_sem, Nat.reduceEqDiff, Nat.reduceLT, Nat.reduceLeDiff, Nat.reduceAdd, Nat.reduceSub, Nat.reduceMul, Nat.reduceBEq, ↓reduceIte, reduceCtorEq, Int.reduceEq, Int.reduceLT, Int.reduceLE, Int.reduceNeg, Int.reduceAdd, Int.reduceSub, Int.reduceToNat, rws_len, vc_cond, hT, h3, grS_boxa, eSg, k2, k1, h0']
      refine callB_pure (giving154 _ rfl) ?_
      simp -implicitDefEqProofs only [go_sem, Nat.reduceEqDiff, Nat.reduceLT, Nat.reduceLeDiff, Nat.reduceAdd, Nat.reduceSub, Nat.reduceMul, Nat.reduceBEq, ↓reduceIte, reduceCtorEq, Int.reduceEq, Int.reduceLT, Int.reduceLE, Int.reduceNeg, Int.reduceAdd, Int.reduceSub, Int.reduceToNat, rws_len, vc_cond, hT, grS_boxa, eSg, k2, k1, resM_cell]
      rw [if_pos h0, List.take_of_length_le (by omega)]
      exact DLe_ef grD_le (DLe_gives rfl)
    · have h0' : ¬ (s.r.val : Int) = 0 := by omega
      simp -implicitDefEqProofs only [go_sem, Nat.reduceEqDiff, Nat.reduceLT, Nat.reduceLeDiff, Nat.reduceAdd, Nat.reduceSub, Nat.reduceMul, Nat.reduceBEq, ↓reduceIte, reduceCtorEq, Int.reduceEq, Int.reduceLT, Int.reduceLE, Int.reduceNeg, Int.reduceAdd, Int.reduceSub, Int.reduceToNat, rws_len, vc_cond, hT, h3, grS_boxa, eSg, k2, k1, h0', frz]
      refine callB_pure (giving154 _ rfl) ?_
      simp -implicitDefEqProofs only [go_sem, Nat.reduceEqDiff, Nat.reduceLT, Nat.reduceLeDiff, Nat.reduceAdd, Nat.reduceSub, Nat.reduceMul, Nat.reduceBEq, ↓reduceIte, reduceCtorEq, Int.reduceEq, Int.reduceLT, Int.reduceLE, Int.reduceNeg, Int.reduceAdd, Int.reduceSub, Int.reduceToNat, rws_len, vc_cond, hT, grS_boxa, eSg, k2, k1, resM_cell]
      rw [if_neg h0, List.take_of_length_le (by omega)]
      exact DLe_ef grD_le (DLe_gives rfl)

theorem tell188 (e : En) (i : Ins) (put : Bool) (hc : Can e) :
    PCall Try.prog 188 [.agg (eEn e), .agg (eIn i), .eptr [.bool put]] (if h : (0 ≤ i.a ∧ i.a < e.cs.length) ∧ 0 ≤ i.b ∧ i.b.toNat < (fieldsOn e.cs (upI e.cs i.a).reverse).length then
      (if put = true then .tup [.agg [.slice .no (rws eW [⟨4, ofClass i.a⟩, ⟨4, ((fieldsOn e.cs (upI e.cs i.a).reverse)[i.b.toNat]'h.2.2).ty⟩]), eG (.const [])], .int .i64 0]
        else .tup [.agg [.slice .no (rws eW [⟨4, ofClass i.a⟩]), eG (.const [((fieldsOn e.cs (upI e.cs i.a).reverse)[i.b.toNat]'h.2.2).ty])], .int .i64 0])
      else .tup [.agg (eEf ef0), .int .i64 72]) := by
  have hw1 := hc.wide.1.1
  have hfl := hc.flds i.a
  have h32 := hc.cls
  refine F188.pcall' rfl fun T hT => ?_
  simp -implicitDefEqProofs only [go_sem, Nat.reduceEqDiff, Nat.reduceLT, Nat.reduceLeDiff, Nat.reduceAdd, Nat.reduceSub, Nat.reduceMul, Nat.reduceBEq, ↓reduceIte, reduceCtorEq, Int.reduceEq, Int.reduceLT, Int.reduceLE, Int.reduceNeg, Int.reduceAdd, Int.reduceSub, Int.reduceToNat, rws_len, vc_cond, c188, hT, eEn, eIn]
  intro b1 b2 n1 n2 b3 m1 m2 m3 m4
  simp -implicitDefEqProofs only [go_sem, Nat.reduceEqDiff, Nat.reduceLT, Nat.reduceLeDiff, Nat.reduceAdd, Nat.reduceSub, Nat.reduceMul, Nat.reduceBEq, ↓reduceIte, reduceCtorEq, Int.reduceEq, Int.reduceLT, Int.reduceLE, Int.reduceNeg, Int.reduceAdd, Int.reduceSub, Int.reduceToNat, rws_len, vc_cond, hT, eEn, eIn, m1, m2, m3, m4, n1, n2]
  refine callB_pure (fields189 e.cs .no i.a (by omega) (by omega)) ?_
  generalize hF : fieldsOn e.cs (upI e.cs i.a).reverse = F at *
  by_cases h : (0 ≤ i.a ∧ i.a < e.cs.length) ∧ 0 ≤ i.b ∧ i.b.toNat < F.length
  case neg =>
    have hq : (decide (i.a < 0) || decide ((e.cs.length : Int) ≤ i.a) || decide (i.b < 0) || decide ((F.length : Int) ≤ i.b)) = true := by simp; omega
    simp -implicitDefEqProofs only [go_sem, Nat.reduceEqDiff, Nat.reduceLT, Nat.reduceLeDiff, Nat.reduceAdd, Nat.reduceSub, Nat.reduceMul, Nat.reduceBEq, ↓reduceIte, reduceCtorEq, Int.reduceEq, Int.reduceLT, Int.reduceLE, Int.reduceNeg, Int.reduceAdd, Int.reduceSub, Int.reduceToNat, rws_len, vc_condQ, w_guardO, ite_and, ite_or, ite_nor, ite_nand, ite_aor, ite_aand, ite_same, gm_move, gm_assign, gm_pick, gm_bin_t, gm_bin_i, gm_bin_b, gm_bin_s, gm_un, gm_conv, gm_iface, gm_func, gm_extract, gm_field, gm_faddr, gm_iaddr, gm_idx, gm_nilc, gm_len, gm_slice, gm_load, hT, resM_cell, set_set, m1, m2, m3, m4, n1, n2, hq]
    rw [dif_neg h]
    exact DLe_ef (DLe.slice _ _) (.refl _)
  have hq : (decide (i.a < 0) || decide ((e.cs.length : Int) ≤ i.a) || decide (i.b < 0) || decide ((F.length : Int) ≤ i.b)) = false := by simp; omega
  rw [dif_pos h]
  obtain ⟨k, hk⟩ : ∃ k : Nat, i.a = k := ⟨i.a.toNat, by omega⟩
  obtain ⟨j, hj⟩ : ∃ j : Nat, i.b = j := ⟨i.b.toNat, by omega⟩
  have hjn : i.b.toNat = j := by omega
  have hjl : j < F.length := by omega
  have hR : (rws eF F)[j]?.getD [] = eF F[j] := rws_at hjl
  have hkc : ofClass i.a = (⟨16 + k, by omega⟩ : Ty) := by
    rw [hk]; ext; simp [ofClass]; omega
  simp only [hjn, hkc]
  rw [hk, hj] at hq
  generalize F[j] = f at *
  cases put
  · simp -implicitDefEqProofs only [go_sem, Nat.reduceEqDiff, Nat.reduceLT, Nat.reduceLeDiff, Nat.reduceAdd, Nat.reduceSub, Nat.reduceMul, Nat.reduceBEq, ↓reduceIte, reduceCtorEq, Int.reduceEq, Int.reduceLT, Int.reduceLE, Int.reduceNeg, Int.reduceAdd, Int.reduceSub, Int.reduceToNat, rws_len, vc_condQ, w_guardO, ite_and, ite_or, ite_nor, ite_nand, ite_aor, ite_aand, ite_same, gm_move, gm_assign, gm_pick, gm_bin_t, gm_bin_i, gm_bin_b, gm_bin_s, gm_un, gm_conv, gm_iface, gm_func, gm_extract, gm_field, gm_faddr, gm_iaddr, gm_idx, gm_nilc, gm_len, gm_slice, gm_load, hT, resM_cell, set_set, m1, m2, m3, m4, n1, n2, hk, hj, hq, hR, eF, eF_len]
    refine ⟨by omega, callB_pure (class187 k (by omega)) ?_⟩
    simp -implicitDefEqProofs only [go_sem, Nat.reduceEqDiff, Nat.reduceLT, Nat.reduceLeDiff, Nat.reduceAdd, Nat.reduceSub, Nat.reduceMul, Nat.reduceBEq, ↓reduceIte, reduceCtorEq, Int.reduceEq, Int.reduceLT, Int.reduceLE, Int.reduceNeg, Int.reduceAdd, Int.reduceSub, Int.reduceToNat, rws_len, vc_condQ, w_guardO, ite_and, ite_or, ite_nor, ite_nand, ite_aor, ite_aand, ite_same, gm_move, gm_assign, gm_pick, gm_bin_t, gm_bin_i, gm_bin_b, gm_bin_s, gm_un, gm_conv, gm_iface, gm_func, gm_extract, gm_field, gm_faddr, gm_iaddr, gm_idx, gm_nilc, gm_len, gm_slice, gm_load, hT, resM_cell, set_set, m1, m2, m3, m4, n1, n2]
    refine callB_pure (of153 (⟨16 + k, by omega⟩ : Ty)) ?_
    simp -implicitDefEqProofs only [go_sem, Nat.reduceEqDiff, Nat.reduceLT, Nat.reduceLeDiff, Nat.reduceAdd, Nat.reduceSub, Nat.reduceMul, Nat.reduceBEq, ↓reduceIte, reduceCtorEq, Int.reduceEq, Int.reduceLT, Int.reduceLE, Int.reduceNeg, Int.reduceAdd, Int.reduceSub, Int.reduceToNat, rws_len, vc_condQ, w_guardO, ite_and, ite_or, ite_nor, ite_nand, ite_aor, ite_aand, ite_same, gm_move, gm_assign, gm_pick, gm_bin_t, gm_bin_i, gm_bin_b, gm_bin_s, gm_un, gm_conv, gm_iface, gm_func, gm_extract, gm_field, gm_faddr, gm_iaddr, gm_idx, gm_nilc, gm_len, gm_slice, gm_load, hT, resM_cell, set_set, m1, m2, m3, m4, n1, n2, eW, frz]
    refine callB_pure (giving154 _ rfl) ?_
    simp -implicitDefEqProofs only [go_sem, Nat.reduceEqDiff, Nat.reduceLT, Nat.reduceLeDiff, Nat.reduceAdd, Nat.reduceSub, Nat.reduceMul, Nat.reduceBEq, ↓reduceIte, reduceCtorEq, Int.reduceEq, Int.reduceLT, Int.reduceLE, Int.reduceNeg, Int.reduceAdd, Int.reduceSub, Int.reduceToNat, rws_len, vc_condQ, w_guardO, ite_and, ite_or, ite_nor, ite_nand, ite_aor, ite_aand, ite_same, gm_move, gm_assign, gm_pick, gm_bin_t, gm_bin_i, gm_bin_b, gm_bin_s, gm_un, gm_conv, gm_iface, gm_func, gm_extract, gm_field, gm_faddr, gm_iaddr, gm_idx, gm_nilc, gm_len, gm_slice, gm_load, hT, resM_cell, set_set, m1, m2, m3, m4, n1, n2]
    exact DLe_ef (DLe.slice _ _) (DLe_gives rfl)
  · simp -implicitDefEqProofs only [go_sem, Nat.reduceEqDiff, Nat.reduceLT, Nat.reduceLeDiff, Nat.reduceAdd, Nat.reduceSub, Nat.reduceMul, Nat.reduceBEq, ↓reduceIte, reduceCtorEq, Int.reduceEq, Int.reduceLT, Int.reduceLE, Int.reduceNeg, Int.reduceAdd, Int.reduceSub, Int.reduceToNat, rws_len, vc_condQ, w_guardO, ite_and, ite_or, ite_nor, ite_nand, ite_aor, ite_aand, ite_same, gm_move, gm_assign, gm_pick, gm_bin_t, gm_bin_i, gm_bin_b, gm_bin_s, gm_un, gm_conv, gm_iface, gm_func, gm_extract, gm_field, gm_faddr, gm_iaddr, gm_idx, gm_nilc, gm_len, gm_slice, gm_load, hT, resM_cell, set_set, m1, m2, m3, m4, n1, n2, hk, hj, hq, hR, eF, eF_len]
    refine ⟨by omega, callB_pure (class187 k (by omega)) ?_⟩
    simp -implicitDefEqProofs only [go_sem, Nat.reduceEqDiff, Nat.reduceLT, Nat.reduceLeDiff, Nat.reduceAdd, Nat.reduceSub, Nat.reduceMul, Nat.reduceBEq, ↓reduceIte, reduceCtorEq, Int.reduceEq, Int.reduceLT, Int.reduceLE, Int.reduceNeg, Int.reduceAdd, Int.reduceSub, Int.reduceToNat, rws_len, vc_condQ, w_guardO, ite_and, ite_or, ite_nor, ite_nand, ite_aor, ite_aand, ite_same, gm_move, gm_assign, gm_pick, gm_bin_t, gm_bin_i, gm_bin_b, gm_bin_s, gm_un, gm_conv, gm_iface, gm_func, gm_extract, gm_field, gm_faddr, gm_iaddr, gm_idx, gm_nilc, gm_len, gm_slice, gm_load, hT, resM_cell, set_set, m1, m2, m3, m4, n1, n2]
    refine callB_pure (of153 (⟨16 + k, by omega⟩ : Ty)) ?_
    simp -implicitDefEqProofs only [go_sem, Nat.reduceEqDiff, Nat.reduceLT, Nat.reduceLeDiff, Nat.reduceAdd, Nat.reduceSub, Nat.reduceMul, Nat.reduceBEq, ↓reduceIte, reduceCtorEq, Int.reduceEq, Int.reduceLT, Int.reduceLE, Int.reduceNeg, Int.reduceAdd, Int.reduceSub, Int.reduceToNat, rws_len, vc_condQ, w_guardO, ite_and, ite_or, ite_nor, ite_nand, ite_aor, ite_aand, ite_same, gm_move, gm_assign, gm_pick, gm_bin_t, gm_bin_i, gm_bin_b, gm_bin_s, gm_un, gm_conv, gm_iface, gm_func, gm_extract, gm_field, gm_faddr, gm_iaddr, gm_idx, gm_nilc, gm_len, gm_slice, gm_load, hT, resM_cell, set_set, m1, m2, m3, m4, n1, n2, eW]
    refine callB_pure (of153 f.ty) ?_
    simp -implicitDefEqProofs only [go_sem, Nat.reduceEqDiff, Nat.reduceLT, Nat.reduceLeDiff, Nat.reduceAdd, Nat.reduceSub, Nat.reduceMul, Nat.reduceBEq, ↓reduceIte, reduceCtorEq, Int.reduceEq, Int.reduceLT, Int.reduceLE, Int.reduceNeg, Int.reduceAdd, Int.reduceSub, Int.reduceToNat, rws_len, vc_condQ, w_guardO, ite_and, ite_or, ite_nor, ite_nand, ite_aor, ite_aand, ite_same, gm_move, gm_assign, gm_pick, gm_bin_t, gm_bin_i, gm_bin_b, gm_bin_s, gm_un, gm_conv, gm_iface, gm_func, gm_extract, gm_field, gm_faddr, gm_iaddr, gm_idx, gm_nilc, gm_len, gm_slice, gm_load, hT, resM_cell, set_set, m1, m2, m3, m4, n1, n2, eW, frz]
    refine callB_pure (giving154 _ rfl) ?_
    simp -implicitDefEqProofs only [go_sem, Nat.reduceEqDiff, Nat.reduceLT, Nat.reduceLeDiff, Nat.reduceAdd, Nat.reduceSub, Nat.reduceMul, Nat.reduceBEq, ↓reduceIte, reduceCtorEq, Int.reduceEq, Int.reduceLT, Int.reduceLE, Int.reduceNeg, Int.reduceAdd, Int.reduceSub, Int.reduceToNat, rws_len, vc_condQ, w_guardO, ite_and, ite_or, ite_nor, ite_nand, ite_aor, ite_aand, ite_same, gm_move, gm_assign, gm_pick, gm_bin_t, gm_bin_i, gm_bin_b, gm_bin_s, gm_un, gm_conv, gm_iface, gm_func, gm_extract, gm_field, gm_faddr, gm_iaddr, gm_idx, gm_nilc, gm_len, gm_slice, gm_load, hT, resM_cell, set_set, m1, m2, m3, m4, n1, n2]
    exact DLe_ef (DLe.slice _ _) (DLe_gives rfl)
end Go.AL
