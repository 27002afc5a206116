import Derived.Test.YtanhkkillmbkhaaPi
namespace Go.AL
open Go.Proofs
set_option linter.unusedSimpArgs false
set_option linter.unusedVariables false
set_option maxRecDepth 100000
set_option maxHeartbeats 2000000

theorem fieldsErr_stored {n : Nat} {a : List ByteArray} : ∀ (own : List ByteArray) (r : List Fd), fieldsErr n a own r = 0 → ∀ f ∈ r, storedN n f.ty = true
  | own, [], h, f, hf => by cases hf
  | own, g :: r, h, f, hf => by
    simp only [fieldsErr] at h
    repeat' split at h
    all_goals first
      | omega
      | skip
    rename_i h3
    rcases List.mem_cons.1 hf with rfl | hf
    · simpa using h3
    · exact fieldsErr_stored _ _ h f hf
theorem right_stored {w : ByteArray → Bool} {l : List Cl} (hr : Right w l l.length) {k : Nat} (hk : k < l.length) {f : Fd} (hf : f ∈ l[k].fields) : storedN l.length f.ty = true := by
  have := hr k hk hk
  unfold classErr at this
  repeat' split at this
  all_goals first
    | omega
    | exact fieldsErr_stored _ _ this f hf
theorem flds_stored {e : En} {i : Ins} (hc : Can e) {f : Fd} (hf : f ∈ flds e i) : f.ty.val ≠ 0 := by
  simp only [flds, fieldsOn, List.mem_flatMap, List.mem_reverse] at hf
  obtain ⟨k, hk, hf⟩ := hf
  have hlt := upI_lt hk
  simp only [fieldsAt, List.getElem?_eq_getElem hlt, Option.map_some, Option.getD_some] at hf
  have := right_stored hc.right hlt hf
  simp only [storedN, Bool.and_eq_true, decide_eq_true_eq] at this
  exact this.2.1

end Go.AL
