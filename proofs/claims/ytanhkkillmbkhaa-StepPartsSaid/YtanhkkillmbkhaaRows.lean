/-
  No cell of these rows narrows 'for every input' (looked for: loops, veiled, ifaces, maps, wideKeys, modest, calm, conditions, laid).
  DERIVED. THE GIVEN ROWS OF THIS SEAT. 8 by the template 'for every input the law returns true; each argument reads behind the call as it read before'; 0 by the template 'total and deterministic' (their statements: YtanhkkillmbkhaaTotals.lean).
  GIVEN WITH THE SEED: the statements are not yours to turn. If you find one false, say at which input.
  Laid BY PROGRAM, IN A SANDBOX (cutbox-rows.mjs): the forced cells as the released guide's own fill.sh prints them over the translation 80247f7f2e7c0dad… (all of the seat's roots in one cut). By AI agents, Wed Nov 11 2026. No macro, syntax, notation, axiom, sorry.
-/
import Derived.Test.YtanhkkillmbkhaaChecked
import GoSem.Claim
import GoSem.ClaimJoined
import GoSem.ClaimMapViews
import Derived.JoinedTies
import Derived.KernelRfl
namespace Go.Proofs.Ytanhkkillmbkhaa
/- THE CELL 'sum', in the pinned program and in every row, IS THE sha256 OF THE DUMP (.gsa) THAT YtanhkkillmbkhaaProg.lean LOADS. Nothing in Lean hashes anything: it is a label: what it is worth is what the hold of that sum in a sandbox is worth. -/
noncomputable def Try.pinned : Pinned := { name := "ytanhkkillmbkhaa", sum := "80247f7f2e7c0dada493a3089d7de707d2bec4b0ce099a560486e8b4d89995b2", checked := Try.checked }
namespace Rows
def none {H : Type} : Left H := { results := [], args := [] }

/-- 'provisolaw15.MeaningAdmits': WHATEVER THE INPUT: true; the input reads as it did. -/
def meaningAdmitsSpec : ChangeSpec := { name := "meaningAdmits", fn := fun _ => fun
  | [d1, d2] => { results := [.lit (.bool true)], args := [d1, d2] }
  | _ => none }
def meaningAdmitsRow : OpenClaim := { program := "ytanhkkillmbkhaa", sum := "80247f7f2e7c0dada493a3089d7de707d2bec4b0ce099a560486e8b4d89995b2", func := "proviso/provisolaw15.MeaningAdmits", spec := "meaningAdmits", apart := false }
def MeaningAdmitsSaid : Prop := meaningAdmitsRow.holds Try.pinned (OpenSpec.ofChange meaningAdmitsSpec)

/-- ITS FALSE NEIGHBOUR: 'it returns false'. Refute it at one input. -/
def meaningAdmitsWrong : ChangeSpec := { name := "meaningAdmits", fn := fun _ => fun
  | [d1, d2] => { results := [.lit (.bool false)], args := [d1, d2] }
  | _ => none }
def MeaningAdmitsWrongFalsely : Prop := meaningAdmitsRow.holds Try.pinned (OpenSpec.ofChange meaningAdmitsWrong)

/-- 'provisolaw12.CheckAsks': WHATEVER THE INPUT: true; the input reads as it did. -/
def checkAsksSpec : ChangeSpec := { name := "checkAsks", fn := fun _ => fun
  | [d1, d2] => { results := [.lit (.bool true)], args := [d1, d2] }
  | _ => none }
def checkAsksRow : OpenClaim := { program := "ytanhkkillmbkhaa", sum := "80247f7f2e7c0dada493a3089d7de707d2bec4b0ce099a560486e8b4d89995b2", func := "proviso/provisolaw12.CheckAsks", spec := "checkAsks", unfollowed := true, recurses := true, apart := false }
def CheckAsksSaid : Prop := checkAsksRow.holds Try.pinned (OpenSpec.ofChange checkAsksSpec)

/-- ITS FALSE NEIGHBOUR: 'it returns false'. Refute it at one input. -/
def checkAsksWrong : ChangeSpec := { name := "checkAsks", fn := fun _ => fun
  | [d1, d2] => { results := [.lit (.bool false)], args := [d1, d2] }
  | _ => none }
def CheckAsksWrongFalsely : Prop := checkAsksRow.holds Try.pinned (OpenSpec.ofChange checkAsksWrong)

/-- 'provisolaw08.InferMays': WHATEVER THE INPUT: true; the input reads as it did. -/
def inferMaysSpec : ChangeSpec := { name := "inferMays", fn := fun _ => fun
  | [d1, d2] => { results := [.lit (.bool true)], args := [d1, d2] }
  | _ => none }
def inferMaysRow : OpenClaim := { program := "ytanhkkillmbkhaa", sum := "80247f7f2e7c0dada493a3089d7de707d2bec4b0ce099a560486e8b4d89995b2", func := "proviso/provisolaw08.InferMays", spec := "inferMays", unfollowed := true, recurses := true, apart := false }
def InferMaysSaid : Prop := inferMaysRow.holds Try.pinned (OpenSpec.ofChange inferMaysSpec)

/-- ITS FALSE NEIGHBOUR: 'it returns false'. Refute it at one input. -/
def inferMaysWrong : ChangeSpec := { name := "inferMays", fn := fun _ => fun
  | [d1, d2] => { results := [.lit (.bool false)], args := [d1, d2] }
  | _ => none }
def InferMaysWrongFalsely : Prop := inferMaysRow.holds Try.pinned (OpenSpec.ofChange inferMaysWrong)

/-- 'provisolaw07.StepCounts': WHATEVER THE INPUT: true; the input reads as it did. -/
def stepCountsSpec : ChangeSpec := { name := "stepCounts", fn := fun _ => fun
  | [d1, d2] => { results := [.lit (.bool true)], args := [d1, d2] }
  | _ => none }
def stepCountsRow : OpenClaim := { program := "ytanhkkillmbkhaa", sum := "80247f7f2e7c0dada493a3089d7de707d2bec4b0ce099a560486e8b4d89995b2", func := "proviso/provisolaw07.StepCounts", spec := "stepCounts", unfollowed := true, recurses := true, apart := false }
def StepCountsSaid : Prop := stepCountsRow.holds Try.pinned (OpenSpec.ofChange stepCountsSpec)

/-- ITS FALSE NEIGHBOUR: 'it returns false'. Refute it at one input. -/
def stepCountsWrong : ChangeSpec := { name := "stepCounts", fn := fun _ => fun
  | [d1, d2] => { results := [.lit (.bool false)], args := [d1, d2] }
  | _ => none }
def StepCountsWrongFalsely : Prop := stepCountsRow.holds Try.pinned (OpenSpec.ofChange stepCountsWrong)

/-- 'provisolaw07.StepMonotone': WHATEVER THE INPUT: true; the input reads as it did. -/
def stepMonotoneSpec : ChangeSpec := { name := "stepMonotone", fn := fun _ => fun
  | [d1, d2, d3, d4] => { results := [.lit (.bool true)], args := [d1, d2, d3, d4] }
  | _ => none }
def stepMonotoneRow : OpenClaim := { program := "ytanhkkillmbkhaa", sum := "80247f7f2e7c0dada493a3089d7de707d2bec4b0ce099a560486e8b4d89995b2", func := "proviso/provisolaw07.StepMonotone", spec := "stepMonotone", unfollowed := true, recurses := true, apart := false }
def StepMonotoneSaid : Prop := stepMonotoneRow.holds Try.pinned (OpenSpec.ofChange stepMonotoneSpec)

/-- ITS FALSE NEIGHBOUR: 'it returns false'. Refute it at one input. -/
def stepMonotoneWrong : ChangeSpec := { name := "stepMonotone", fn := fun _ => fun
  | [d1, d2, d3, d4] => { results := [.lit (.bool false)], args := [d1, d2, d3, d4] }
  | _ => none }
def StepMonotoneWrongFalsely : Prop := stepMonotoneRow.holds Try.pinned (OpenSpec.ofChange stepMonotoneWrong)

/-- 'provisolaw07.StepApplies': WHATEVER THE INPUT: true; the input reads as it did. -/
def stepAppliesSpec : ChangeSpec := { name := "stepApplies", fn := fun _ => fun
  | [d1, d2, d3] => { results := [.lit (.bool true)], args := [d1, d2, d3] }
  | _ => none }
def stepAppliesRow : OpenClaim := { program := "ytanhkkillmbkhaa", sum := "80247f7f2e7c0dada493a3089d7de707d2bec4b0ce099a560486e8b4d89995b2", func := "proviso/provisolaw07.StepApplies", spec := "stepApplies", unfollowed := true, recurses := true, apart := false }
def StepAppliesSaid : Prop := stepAppliesRow.holds Try.pinned (OpenSpec.ofChange stepAppliesSpec)

/-- ITS FALSE NEIGHBOUR: 'it returns false'. Refute it at one input. -/
def stepAppliesWrong : ChangeSpec := { name := "stepApplies", fn := fun _ => fun
  | [d1, d2, d3] => { results := [.lit (.bool false)], args := [d1, d2, d3] }
  | _ => none }
def StepAppliesWrongFalsely : Prop := stepAppliesRow.holds Try.pinned (OpenSpec.ofChange stepAppliesWrong)

/-- 'provisolaw07.StepHeights': WHATEVER THE INPUT: true; the input reads as it did. -/
def stepHeightsSpec : ChangeSpec := { name := "stepHeights", fn := fun _ => fun
  | [d1, d2, d3] => { results := [.lit (.bool true)], args := [d1, d2, d3] }
  | _ => none }
def stepHeightsRow : OpenClaim := { program := "ytanhkkillmbkhaa", sum := "80247f7f2e7c0dada493a3089d7de707d2bec4b0ce099a560486e8b4d89995b2", func := "proviso/provisolaw07.StepHeights", spec := "stepHeights", unfollowed := true, recurses := true, apart := false }
def StepHeightsSaid : Prop := stepHeightsRow.holds Try.pinned (OpenSpec.ofChange stepHeightsSpec)

/-- ITS FALSE NEIGHBOUR: 'it returns false'. Refute it at one input. -/
def stepHeightsWrong : ChangeSpec := { name := "stepHeights", fn := fun _ => fun
  | [d1, d2, d3] => { results := [.lit (.bool false)], args := [d1, d2, d3] }
  | _ => none }
def StepHeightsWrongFalsely : Prop := stepHeightsRow.holds Try.pinned (OpenSpec.ofChange stepHeightsWrong)

/-- 'provisolaw07.StepParts': WHATEVER THE INPUT: true; the input reads as it did. -/
def stepPartsSpec : ChangeSpec := { name := "stepParts", fn := fun _ => fun
  | [d1, d2, d3, d4] => { results := [.lit (.bool true)], args := [d1, d2, d3, d4] }
  | _ => none }
def stepPartsRow : OpenClaim := { program := "ytanhkkillmbkhaa", sum := "80247f7f2e7c0dada493a3089d7de707d2bec4b0ce099a560486e8b4d89995b2", func := "proviso/provisolaw07.StepParts", spec := "stepParts", unfollowed := true, recurses := true, apart := false }
def StepPartsSaid : Prop := stepPartsRow.holds Try.pinned (OpenSpec.ofChange stepPartsSpec)

/-- ITS FALSE NEIGHBOUR: 'it returns false'. Refute it at one input. -/
def stepPartsWrong : ChangeSpec := { name := "stepParts", fn := fun _ => fun
  | [d1, d2, d3, d4] => { results := [.lit (.bool false)], args := [d1, d2, d3, d4] }
  | _ => none }
def StepPartsWrongFalsely : Prop := stepPartsRow.holds Try.pinned (OpenSpec.ofChange stepPartsWrong)

/- THE SECOND FORM. 'bulk': how many values and letters a reading holds, each counted each time it is reached (what is shared counts as often as it is met; a slice's spare places count too). A statement '..UptoSaid' is the law's where the arguments, and the package variables that the reading takes, are together of bulk at most 1048576: NARROWER than '..Said'. Prove '..Said' where nothing that the law and all that it calls make is longer than what came in: it says more and counts as full. Else prove '..UptoSaid'. A law counts once. -/
mutual
def uptoBulk {H : Type} : DataW H → Nat
  | .lit (.string bytes) => bytes.length + 1
  | .lit _ => 1
  | .nil => 1
  | .ptr d => uptoBulk d + 1
  | .slice elems spare => uptoBulkAll elems + uptoBulkAll spare + 1
  | .agg parts => uptoBulkAll parts + 1
  | .iface _ d => uptoBulk d + 1
  | .map entries => uptoBulkEntries entries + 1
  | .held _ => 1
def uptoBulkAll {H : Type} : List (DataW H) → Nat
  | [] => 0
  | d :: r => uptoBulk d + uptoBulkAll r
def uptoBulkEntries {H : Type} : List (Lit × DataW H) → Nat
  | [] => 0
  | x :: r => uptoBulkEntry x + uptoBulkEntries r
def uptoBulkEntry {H : Type} : Lit × DataW H → Nat
  | (.string bytes, d) => bytes.length + uptoBulk d + 1
  | (_, d) => uptoBulk d + 1
 end
def uptoSmall : (H : Type) → List (DataW H) → Bool := fun _ ds => decide (uptoBulkAll ds ≤ 1048576)
def OpenSpec.upto (s : _root_.Go.ChangeSpec) : _root_.Go.OpenSpec := { _root_.Go.OpenSpec.ofChange s with cond := some uptoSmall }

/-- 'provisolaw15.MeaningAdmits', WHERE WHAT IT READS IS OF BULK AT MOST 1048576: true; the input reads as it did. -/
def meaningAdmitsUptoRow : OpenClaim := { program := "ytanhkkillmbkhaa", sum := "80247f7f2e7c0dada493a3089d7de707d2bec4b0ce099a560486e8b4d89995b2", func := "proviso/provisolaw15.MeaningAdmits", spec := "meaningAdmits", apart := false, narrowed := true }
def MeaningAdmitsUptoSaid : Prop := meaningAdmitsUptoRow.holds Try.pinned (OpenSpec.upto meaningAdmitsSpec)

/-- 'provisolaw12.CheckAsks', WHERE WHAT IT READS IS OF BULK AT MOST 1048576: true; the input reads as it did. -/
def checkAsksUptoRow : OpenClaim := { program := "ytanhkkillmbkhaa", sum := "80247f7f2e7c0dada493a3089d7de707d2bec4b0ce099a560486e8b4d89995b2", func := "proviso/provisolaw12.CheckAsks", spec := "checkAsks", unfollowed := true, recurses := true, apart := false, narrowed := true }
def CheckAsksUptoSaid : Prop := checkAsksUptoRow.holds Try.pinned (OpenSpec.upto checkAsksSpec)

/-- 'provisolaw08.InferMays', WHERE WHAT IT READS IS OF BULK AT MOST 1048576: true; the input reads as it did. -/
def inferMaysUptoRow : OpenClaim := { program := "ytanhkkillmbkhaa", sum := "80247f7f2e7c0dada493a3089d7de707d2bec4b0ce099a560486e8b4d89995b2", func := "proviso/provisolaw08.InferMays", spec := "inferMays", unfollowed := true, recurses := true, apart := false, narrowed := true }
def InferMaysUptoSaid : Prop := inferMaysUptoRow.holds Try.pinned (OpenSpec.upto inferMaysSpec)

/-- 'provisolaw07.StepCounts', WHERE WHAT IT READS IS OF BULK AT MOST 1048576: true; the input reads as it did. -/
def stepCountsUptoRow : OpenClaim := { program := "ytanhkkillmbkhaa", sum := "80247f7f2e7c0dada493a3089d7de707d2bec4b0ce099a560486e8b4d89995b2", func := "proviso/provisolaw07.StepCounts", spec := "stepCounts", unfollowed := true, recurses := true, apart := false, narrowed := true }
def StepCountsUptoSaid : Prop := stepCountsUptoRow.holds Try.pinned (OpenSpec.upto stepCountsSpec)

/-- 'provisolaw07.StepMonotone', WHERE WHAT IT READS IS OF BULK AT MOST 1048576: true; the input reads as it did. -/
def stepMonotoneUptoRow : OpenClaim := { program := "ytanhkkillmbkhaa", sum := "80247f7f2e7c0dada493a3089d7de707d2bec4b0ce099a560486e8b4d89995b2", func := "proviso/provisolaw07.StepMonotone", spec := "stepMonotone", unfollowed := true, recurses := true, apart := false, narrowed := true }
def StepMonotoneUptoSaid : Prop := stepMonotoneUptoRow.holds Try.pinned (OpenSpec.upto stepMonotoneSpec)

/-- 'provisolaw07.StepApplies', WHERE WHAT IT READS IS OF BULK AT MOST 1048576: true; the input reads as it did. -/
def stepAppliesUptoRow : OpenClaim := { program := "ytanhkkillmbkhaa", sum := "80247f7f2e7c0dada493a3089d7de707d2bec4b0ce099a560486e8b4d89995b2", func := "proviso/provisolaw07.StepApplies", spec := "stepApplies", unfollowed := true, recurses := true, apart := false, narrowed := true }
def StepAppliesUptoSaid : Prop := stepAppliesUptoRow.holds Try.pinned (OpenSpec.upto stepAppliesSpec)

/-- 'provisolaw07.StepHeights', WHERE WHAT IT READS IS OF BULK AT MOST 1048576: true; the input reads as it did. -/
def stepHeightsUptoRow : OpenClaim := { program := "ytanhkkillmbkhaa", sum := "80247f7f2e7c0dada493a3089d7de707d2bec4b0ce099a560486e8b4d89995b2", func := "proviso/provisolaw07.StepHeights", spec := "stepHeights", unfollowed := true, recurses := true, apart := false, narrowed := true }
def StepHeightsUptoSaid : Prop := stepHeightsUptoRow.holds Try.pinned (OpenSpec.upto stepHeightsSpec)

/-- 'provisolaw07.StepParts', WHERE WHAT IT READS IS OF BULK AT MOST 1048576: true; the input reads as it did. -/
def stepPartsUptoRow : OpenClaim := { program := "ytanhkkillmbkhaa", sum := "80247f7f2e7c0dada493a3089d7de707d2bec4b0ce099a560486e8b4d89995b2", func := "proviso/provisolaw07.StepParts", spec := "stepParts", unfollowed := true, recurses := true, apart := false, narrowed := true }
def StepPartsUptoSaid : Prop := stepPartsUptoRow.holds Try.pinned (OpenSpec.upto stepPartsSpec)

end Rows
end Go.Proofs.Ytanhkkillmbkhaa
