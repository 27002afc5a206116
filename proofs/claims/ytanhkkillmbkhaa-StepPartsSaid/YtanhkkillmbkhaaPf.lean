import Derived.Test.YtanhkkillmbkhaaPe
import Derived.Test.YtanhkkillmbkhaaLe
import Derived.Test.YtanhkkillmbkhaaRows
namespace Go.AL
open Go.Proofs Go.ChangeShapes Go.WideShapes Go.ChangeAt Go.RowKit
open Go.Proofs.Ytanhkkillmbkhaa
set_option linter.unusedSimpArgs false
set_option linter.unusedVariables false
set_option maxRecDepth 100000

theorem rws_of {α : Type} {enc : α → List D} : ∀ {es : List (List D)}, (∀ r ∈ es, ∃ x, r = enc x) → ∃ xs, es = rws enc xs
  | [], _ => ⟨[], rfl⟩
  | r :: es, h => by
    obtain ⟨x, rfl⟩ := h r (by simp)
    obtain ⟨xs, rfl⟩ := rws_of (es := es) (fun r hr => h r (by simp [hr]))
    exact ⟨x :: xs, rfl⟩

theorem wt_int {P : Program} {n : Nat} {t : TypeId} {k : IntKind} {ds : List D} (hu : P.underlying t = some (.int k)) (h : WT P n t ds) : ∃ z, ds = [.int k z] ∧ (Lit.int k z).wf = true := by
  cases n with
  | zero => exact h.elim
  | succ n => unfold WT at h; rw [hu] at h; exact h
theorem wt_slice {P : Program} {n : Nat} {t e : TypeId} {ds : List D} (hu : P.underlying t = some (.slice e)) (h : WT P (n + 1) t ds) : ∃ es, ds = [.slice .no es] ∧ es.length * P.bytesOf e ≤ reachBytes ∧ ∀ r ∈ es, WT P n e r := by
  unfold WT at h; rw [hu] at h; exact h
theorem wt_struct {P : Program} {n : Nat} {t : TypeId} {fs : Array Field} {ds : List D} (hu : P.underlying t = some (.struct fs)) (h : WT P (n + 1) t ds) : WTs (WT P n) (fs.toList.map (·.type)) ds := by
  unfold WT at h; rw [hu] at h; exact h
theorem wf_u8 {z : Int} (h : (Lit.int .u8 z).wf = true) : ∃ t : Ty, z = t.val := by
  simp [Lit.wf, IntKind.min, IntKind.max, IntKind.signed, IntKind.bits] at h
  exact ⟨⟨z.toNat, by omega⟩, by simp; omega⟩
theorem reach_eq : reachBytes = 140737488351232 := rfl

theorem wt22 {n : Nat} {ds : List D} (h : WT Try.prog (n + 1) 22 ds) : ∃ ts : List Ty, ds = [.slice .no (rws eT ts)] ∧ ts.length ≤ 140737488351232 := by
  obtain ⟨es, rfl, hl, hr⟩ := wt_slice Try.underlying22 h
  obtain ⟨ts, rfl⟩ := rws_of (enc := eT) (fun r hr' => by
    obtain ⟨z, rfl, hz⟩ := wt_int Try.underlying23 (hr r hr')
    obtain ⟨t, rfl⟩ := wf_u8 hz
    exact ⟨t, rfl⟩)
  have hb : Try.prog.bytesOf 23 = 1 := by kernel_rfl
  rw [hb, rws_len] at hl
  exact ⟨ts, rfl, by rw [reach_eq] at hl; omega⟩
theorem wt25 {n : Nat} {ds : List D} (h : WT Try.prog (n + 2) 25 ds) : ∃ s : Sg, ds = eSg s ∧ s.ps.length ≤ 140737488351232 := by
  obtain ⟨d1, d2, rfl, h1, d3, d4, rfl, h2, h3⟩ := wt_struct Try.underlying25 h
  obtain ⟨ts, rfl, hl⟩ := wt22 h1
  obtain ⟨z, rfl, hz⟩ := wt_int Try.underlying23 h2
  obtain ⟨t, rfl⟩ := wf_u8 hz
  obtain rfl : d4 = [] := h3
  exact ⟨⟨ts, t⟩, rfl, hl⟩


theorem wt_str {P : Program} {n : Nat} {t : TypeId} {ds : List D} (hu : P.underlying t = some .string) (h : WT P n t ds) : ∃ s : ByteArray, ds = [.str s] := by
  cases n with
  | zero => exact h.elim
  | succ n => unfold WT at h; rw [hu] at h; obtain ⟨s, hs, _⟩ := h; exact ⟨s, hs⟩
/-- Rows, each of which is some element's, with what holds of them all. -/
theorem rws_of' {α : Type} {enc : α → List D} {p : α → Prop} : ∀ {es : List (List D)}, (∀ r ∈ es, ∃ x, r = enc x ∧ p x) → ∃ xs, es = rws enc xs ∧ ∀ x ∈ xs, p x
  | [], _ => ⟨[], rfl, by simp⟩
  | r :: es, h => by
    obtain ⟨x, rfl, hx⟩ := h r (by simp)
    obtain ⟨xs, rfl, hxs⟩ := rws_of' (es := es) (fun r hr => h r (by simp [hr]))
    exact ⟨x :: xs, rfl, by simpa using ⟨hx, hxs⟩⟩
theorem wt110 {n : Nat} {ds : List D} (h : WT Try.prog (n + 2) 110 ds) : ∃ f : Fd, ds = eF f := by
  obtain ⟨d1, d2, rfl, h1, d3, d4, rfl, h2, h3⟩ := wt_struct Try.underlying110 h
  obtain ⟨s, rfl⟩ := wt_str Try.underlying9 h1
  obtain ⟨z, rfl, hz⟩ := wt_int Try.underlying23 h2
  obtain ⟨t, rfl⟩ := wf_u8 hz
  obtain rfl : d4 = [] := h3
  exact ⟨⟨s, t⟩, rfl⟩
theorem wt105 {n : Nat} {ds : List D} (h : WT Try.prog (n + 3) 105 ds) : ∃ fs : List Fd, ds = [.slice .no (rws eF fs)] ∧ fs.length * 24 ≤ 140737488351232 := by
  obtain ⟨es, rfl, hl, hr⟩ := wt_slice Try.underlying105 h
  obtain ⟨ts, rfl⟩ := rws_of (enc := eF) (fun r hr' => wt110 (hr r hr'))
  have hb : Try.prog.bytesOf 110 = 24 := by kernel_rfl
  rw [hb, rws_len] at hl
  exact ⟨ts, rfl, by rw [reach_eq] at hl; omega⟩
theorem wt107 {n : Nat} {ds : List D} (h : WT Try.prog (n + 4) 107 ds) : ∃ c : Cl, ds = eC c ∧ c.fields.length * 24 ≤ 140737488351232 := by
  obtain ⟨d1, d2, rfl, h1, d3, d4, rfl, h2, d5, d6, rfl, h3, h4⟩ := wt_struct Try.underlying107 h
  obtain ⟨s, rfl⟩ := wt_str Try.underlying9 h1
  obtain ⟨z, rfl, hz⟩ := wt_int Try.underlying3 h2
  obtain ⟨fs, rfl, hl⟩ := wt105 h3
  obtain rfl : d6 = [] := h4
  exact ⟨⟨s, z, fs⟩, rfl, hl⟩
theorem wt52 {n : Nat} {ds : List D} (h : WT Try.prog (n + 5) 52 ds) : ∃ l : List Cl, ds = [.slice .no (rws eC l)] ∧ Wide l := by
  obtain ⟨es, rfl, hl, hr⟩ := wt_slice Try.underlying52 h
  obtain ⟨l, rfl, hw⟩ := rws_of' (enc := eC) (fun r hr' => wt107 (hr r hr'))
  have hb : Try.prog.bytesOf 107 = 48 := by kernel_rfl
  rw [hb, rws_len] at hl
  exact ⟨l, rfl, by rw [reach_eq] at hl; omega, hw⟩
theorem wt49 {n : Nat} {ds : List D} (h : WT Try.prog (n + 3) 49 ds) : ∃ l : List Sg, ds = [.slice .no (rws eSg l)] ∧ l.length * 32 ≤ 140737488351232 ∧ ∀ s ∈ l, s.ps.length ≤ 140737488351232 := by
  obtain ⟨es, rfl, hl, hr⟩ := wt_slice Try.underlying49 h
  obtain ⟨l, rfl, hw⟩ := rws_of' (enc := eSg) (p := fun s => s.ps.length ≤ 140737488351232) (fun r hr' => wt25 (hr r hr'))
  have hb : Try.prog.bytesOf 25 = 32 := by kernel_rfl
  rw [hb, rws_len] at hl
  exact ⟨l, rfl, by rw [reach_eq] at hl; omega, hw⟩
theorem wt57 {n : Nat} {ds : List D} (h : WT Try.prog (n + 6) 57 ds) : ∃ e : En, ds = eEn e ∧ WideE e := by
  obtain ⟨d1, d2, rfl, h1, d3, d4, rfl, h2, d5, d6, rfl, h3, h4⟩ := wt_struct Try.underlying57 h
  obtain ⟨l, rfl, hl⟩ := wt52 h1
  obtain ⟨s, rfl, hs⟩ := wt49 h2
  obtain ⟨z, rfl, hz⟩ := wt_int Try.underlying3 h3
  obtain rfl : d6 = [] := h4
  exact ⟨⟨l, s, z⟩, rfl, hl, hs⟩
end Go.AL
