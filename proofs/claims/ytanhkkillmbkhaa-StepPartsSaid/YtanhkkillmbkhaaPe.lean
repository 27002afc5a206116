import Derived.Test.YtanhkkillmbkhaaPd
namespace Go.AL
open Go.Proofs
set_option linter.unusedSimpArgs false
set_option linter.unusedVariables false
set_option maxRecDepth 100000

theorem resM_cell {P : Program} {T : Env} {σ : St} {a : Nat} {t : TypeId} {rs : List ResultVar} : resMany P T σ (.cell a t :: rs) = (match resC P t σ (T a) with | some d => (resMany P T σ rs).map (d :: ·) | none => none) := by
  simp only [resMany, resOne, resC]
  cases T a <;> simp
  rename_i b off
  cases σ.box b <;> simp
  rename_i cs
  cases partD P t (cs.drop off) 0 <;> simp
  cases resMany P T σ rs <;> rfl

structure Fr where
  loc : Int
  h : Int
  sl : Vector Ty 24
  deriving DecidableEq
def eFr (f : Fr) : List D := .int .i64 f.loc :: .int .i64 f.h :: f.sl.toList.map fun t => .int .u8 (t.val : Int)
theorem eFr_len (f : Fr) : (eFr f).length = 26 := by simp [eFr]
def fr0 (n : Int) : Fr := ⟨n, 0, Vector.replicate 24 0⟩
theorem eFr_take (f : Fr) : (eFr f).take 26 = eFr f := List.take_of_length_le (by rw [eFr_len]; exact Nat.le_refl _)
theorem eFr_drop (f : Fr) : (eFr f).drop 26 = [] := List.drop_eq_nil_of_le (by rw [eFr_len]; exact Nat.le_refl _)
theorem fr_set {f : Fr} {i : Nat} (h : i < 24) {t : Ty} : (eFr f).take (2 + i) ++ [D.int .u8 (t.val : Int)] ++ (eFr f).drop (2 + i + 1) = eFr ⟨f.loc, f.h, f.sl.set i t⟩ := by
  simp only [eFr]
  rw [show 2 + i = i + 1 + 1 by omega]
  simp only [List.take_succ_cons, List.drop_succ_cons, List.cons_append]
  congr 2
  simp only [Vector.toList_set, List.map_set]
  rw [List.set_eq_take_append_cons_drop, if_pos (by simpa using h)]
  simp
end Go.AL
namespace Go.AL
open Go.Proofs
set_option linter.unusedSimpArgs false
set_option linter.unusedVariables false
set_option maxRecDepth 100000

def sigMayB (c : Nat) (s : Sg) : Bool := decide (s.ps.length ≤ 8) && !(s.ps.any fun t => !storedN c t) && (decide (s.r.val = 0) || storedN c s.r)

end Go.AL
namespace Go.AL
open Go.Proofs
set_option linter.unusedSimpArgs false
set_option linter.unusedVariables false
set_option maxRecDepth 100000

end Go.AL
