import Derived.Test.YtanhkkillmbkhaaPm
import Derived.Test.YtanhkkillmbkhaaPf
namespace Go.AL
open Go.Proofs Go.ChangeShapes Go.WideShapes Go.ChangeAt Go.RowKit
set_option linter.unusedSimpArgs false
set_option linter.unusedVariables false
set_option maxRecDepth 100000

theorem wt63 {n : Nat} {ds : List D} (h : WT Try.prog (n + 2) 63 ds) : ∃ i : Ins, ds = eIn i := by
  obtain ⟨d1, d2, rfl, h1, d3, d4, rfl, h2, d5, d6, rfl, h3, d7, d8, rfl, h4, h5⟩ := wt_struct Try.underlying63 h
  obtain ⟨z1, rfl, _⟩ := wt_int Try.underlying3 h1
  obtain ⟨z2, rfl, hz⟩ := wt_int Try.underlying5 h2
  obtain ⟨t, rfl⟩ := wf_u8 hz
  obtain ⟨z3, rfl, _⟩ := wt_int Try.underlying3 h3
  obtain ⟨z4, rfl, _⟩ := wt_int Try.underlying3 h4
  obtain rfl : d8 = [] := h5
  exact ⟨⟨z1, t, z3, z4⟩, rfl⟩
theorem wt_arr {n k : Nat} {t e : TypeId} {ds : List D} (hu : Try.prog.underlying t = some (.array k e)) (h : WT Try.prog (n + 1) t ds) : WTs (WT Try.prog n) (List.replicate k e) ds := by
  unfold WT at h; rw [hu] at h; exact h
theorem wts_u8 {n : Nat} : ∀ {k : Nat} {ds : List D}, WTs (WT Try.prog (n + 1)) (List.replicate k 23) ds → ∃ v : List Ty, v.length = k ∧ ds = v.map eU
  | 0, ds, h => ⟨[], rfl, h⟩
  | k + 1, ds, h => by
    obtain ⟨d1, d2, rfl, h1, h2⟩ := h
    obtain ⟨z, rfl, hz⟩ := wt_int Try.underlying23 h1
    obtain ⟨t, rfl⟩ := wf_u8 hz
    obtain ⟨v, hv, rfl⟩ := wts_u8 h2
    exact ⟨t :: v, by simp [hv], rfl⟩
theorem wt71 {n : Nat} {ds : List D} (h : WT Try.prog (n + 3) 71 ds) : ∃ f : Fr, ds = eFr f := by
  obtain ⟨d1, d2, rfl, h1, d3, d4, rfl, h2, d5, d6, rfl, h3, h4⟩ := wt_struct Try.underlying71 h
  obtain ⟨z1, rfl, _⟩ := wt_int Try.underlying3 h1
  obtain ⟨z2, rfl, _⟩ := wt_int Try.underlying3 h2
  obtain ⟨v, hv, rfl⟩ := wts_u8 (wt_arr Try.underlying69 h3)
  obtain rfl : d6 = [] := h4
  refine ⟨⟨z1, z2, ⟨v.toArray, by simpa using hv⟩⟩, ?_⟩
  simp [fr_eq]
end Go.AL
