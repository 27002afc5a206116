import Derived.Test.YtanhkkillmbkhaaPs
import Derived.Test.YtanhkkillmbkhaaPo
namespace Go.AL
open Go.Proofs Go.ChangeShapes Go.WideShapes Go.ChangeAt Go.RowKit
set_option linter.unusedSimpArgs false
set_option linter.unusedVariables false
set_option maxRecDepth 100000

theorem wt78 {n : Nat} {ds : List D} (h : WT Try.prog (n + 3) 78 ds) : ∃ l : List Ins, ds = [.slice .no (rws eIn l)] ∧ l.length * 32 ≤ 140737488351232 := by
  obtain ⟨es, rfl, hl, hr⟩ := wt_slice Try.underlying78 h
  obtain ⟨l, rfl⟩ := rws_of (enc := eIn) (fun r hr' => wt63 (hr r hr'))
  have hb : Try.prog.bytesOf 63 = 32 := by kernel_rfl
  rw [hb, rws_len] at hl
  exact ⟨l, rfl, by rw [reach_eq] at hl; omega⟩
end Go.AL
