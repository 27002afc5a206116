/-
  No cell of these rows narrows 'for every input' (looked for: loops, veiled, ifaces, maps, wideKeys, modest, calm, conditions, laid).
  DERIVED. THE GIVEN ROWS OF THIS SEAT. 6 by the template 'for every input the law returns true; each argument reads behind the call as it read before'; 0 by the template 'total and deterministic' (their statements: YtjffaachihpjbaaGreatTotals.lean).
  GIVEN WITH THE SEED: the statements are not yours to turn. If you find one false, say at which input.
  Laid BY PROGRAM, IN A SANDBOX (cutbox-rows.mjs): the forced cells as the released guide's own fill.sh prints them over the translation 59c30ab485cdb360… (all of the seat's roots in one cut). By AI agents, Wed Nov 11 2026. No macro, syntax, notation, axiom, sorry.
-/
import Derived.Test.YtjffaachihpjbaaGreatChecked
import GoSem.Claim
import GoSem.ClaimJoined
import GoSem.ClaimMapViews
import Derived.JoinedTies
import Derived.KernelRfl
namespace Go.Proofs.YtjffaachihpjbaaGreat
/- THE CELL 'sum', in the pinned program and in every row, IS THE sha256 OF THE DUMP (.gsa) THAT YtjffaachihpjbaaGreatProg.lean LOADS. Nothing in Lean hashes anything: it is a label: what it is worth is what the hold of that sum in a sandbox is worth. -/
noncomputable def Tryz.pinned : Pinned := { name := "ytjffaachihpjbaagreat", sum := "59c30ab485cdb36078bc5f7ee7a0a3ac4ac05d4af7a6fbf274bbf589e35ca4fc", checked := Tryz.checked }
namespace Rows
def none {H : Type} : Left H := { results := [], args := [] }

/-- 'provisolaw08.InferFixed': WHATEVER THE INPUT: true; the input reads as it did. -/
def inferFixedSpec : ChangeSpec := { name := "inferFixed", fn := fun _ => fun
  | [d] => { results := [.lit (.bool true)], args := [d] }
  | _ => none }
def inferFixedRow : OpenClaim := { program := "ytjffaachihpjbaagreat", sum := "59c30ab485cdb36078bc5f7ee7a0a3ac4ac05d4af7a6fbf274bbf589e35ca4fc", func := "proviso/provisolaw08.InferFixed", spec := "inferFixed", unfollowed := true, recurses := true, apart := false }
def InferFixedSaid : Prop := inferFixedRow.holds Tryz.pinned (OpenSpec.ofChange inferFixedSpec)

/-- ITS FALSE NEIGHBOUR: 'it returns false'. Refute it at one input. -/
def inferFixedWrong : ChangeSpec := { name := "inferFixed", fn := fun _ => fun
  | [d] => { results := [.lit (.bool false)], args := [d] }
  | _ => none }
def InferFixedWrongFalsely : Prop := inferFixedRow.holds Tryz.pinned (OpenSpec.ofChange inferFixedWrong)

/-- 'provisolaw08.InferLeast': WHATEVER THE INPUT: true; the input reads as it did. -/
def inferLeastSpec : ChangeSpec := { name := "inferLeast", fn := fun _ => fun
  | [d1, d2] => { results := [.lit (.bool true)], args := [d1, d2] }
  | _ => none }
def inferLeastRow : OpenClaim := { program := "ytjffaachihpjbaagreat", sum := "59c30ab485cdb36078bc5f7ee7a0a3ac4ac05d4af7a6fbf274bbf589e35ca4fc", func := "proviso/provisolaw08.InferLeast", spec := "inferLeast", unfollowed := true, recurses := true, apart := false }
def InferLeastSaid : Prop := inferLeastRow.holds Tryz.pinned (OpenSpec.ofChange inferLeastSpec)

/-- ITS FALSE NEIGHBOUR: 'it returns false'. Refute it at one input. -/
def inferLeastWrong : ChangeSpec := { name := "inferLeast", fn := fun _ => fun
  | [d1, d2] => { results := [.lit (.bool false)], args := [d1, d2] }
  | _ => none }
def InferLeastWrongFalsely : Prop := inferLeastRow.holds Tryz.pinned (OpenSpec.ofChange inferLeastWrong)

/-- 'provisolaw08.InferKnows': WHATEVER THE INPUT: true; the input reads as it did. -/
def inferKnowsSpec : ChangeSpec := { name := "inferKnows", fn := fun _ => fun
  | [d1, d2] => { results := [.lit (.bool true)], args := [d1, d2] }
  | _ => none }
def inferKnowsRow : OpenClaim := { program := "ytjffaachihpjbaagreat", sum := "59c30ab485cdb36078bc5f7ee7a0a3ac4ac05d4af7a6fbf274bbf589e35ca4fc", func := "proviso/provisolaw08.InferKnows", spec := "inferKnows", unfollowed := true, recurses := true, apart := false }
def InferKnowsSaid : Prop := inferKnowsRow.holds Tryz.pinned (OpenSpec.ofChange inferKnowsSpec)

/-- ITS FALSE NEIGHBOUR: 'it returns false'. Refute it at one input. -/
def inferKnowsWrong : ChangeSpec := { name := "inferKnows", fn := fun _ => fun
  | [d1, d2] => { results := [.lit (.bool false)], args := [d1, d2] }
  | _ => none }
def InferKnowsWrongFalsely : Prop := inferKnowsRow.holds Tryz.pinned (OpenSpec.ofChange inferKnowsWrong)

/-- 'provisolaw08.InferReached': WHATEVER THE INPUT: true; the input reads as it did. -/
def inferReachedSpec : ChangeSpec := { name := "inferReached", fn := fun _ => fun
  | [d] => { results := [.lit (.bool true)], args := [d] }
  | _ => none }
def inferReachedRow : OpenClaim := { program := "ytjffaachihpjbaagreat", sum := "59c30ab485cdb36078bc5f7ee7a0a3ac4ac05d4af7a6fbf274bbf589e35ca4fc", func := "proviso/provisolaw08.InferReached", spec := "inferReached", unfollowed := true, recurses := true, apart := false }
def InferReachedSaid : Prop := inferReachedRow.holds Tryz.pinned (OpenSpec.ofChange inferReachedSpec)

/-- ITS FALSE NEIGHBOUR: 'it returns false'. Refute it at one input. -/
def inferReachedWrong : ChangeSpec := { name := "inferReached", fn := fun _ => fun
  | [d] => { results := [.lit (.bool false)], args := [d] }
  | _ => none }
def InferReachedWrongFalsely : Prop := inferReachedRow.holds Tryz.pinned (OpenSpec.ofChange inferReachedWrong)

/-- 'provisolaw08.InferFew': WHATEVER THE INPUT: true; the input reads as it did. -/
def inferFewSpec : ChangeSpec := { name := "inferFew", fn := fun _ => fun
  | [d] => { results := [.lit (.bool true)], args := [d] }
  | _ => none }
def inferFewRow : OpenClaim := { program := "ytjffaachihpjbaagreat", sum := "59c30ab485cdb36078bc5f7ee7a0a3ac4ac05d4af7a6fbf274bbf589e35ca4fc", func := "proviso/provisolaw08.InferFew", spec := "inferFew", unfollowed := true, recurses := true, apart := false }
def InferFewSaid : Prop := inferFewRow.holds Tryz.pinned (OpenSpec.ofChange inferFewSpec)

/-- ITS FALSE NEIGHBOUR: 'it returns false'. Refute it at one input. -/
def inferFewWrong : ChangeSpec := { name := "inferFew", fn := fun _ => fun
  | [d] => { results := [.lit (.bool false)], args := [d] }
  | _ => none }
def InferFewWrongFalsely : Prop := inferFewRow.holds Tryz.pinned (OpenSpec.ofChange inferFewWrong)

/-- 'provisolaw08.InferApart': WHATEVER THE INPUT: true; the input reads as it did. -/
def inferApartSpec : ChangeSpec := { name := "inferApart", fn := fun _ => fun
  | [d1, d2, d3] => { results := [.lit (.bool true)], args := [d1, d2, d3] }
  | _ => none }
def inferApartRow : OpenClaim := { program := "ytjffaachihpjbaagreat", sum := "59c30ab485cdb36078bc5f7ee7a0a3ac4ac05d4af7a6fbf274bbf589e35ca4fc", func := "proviso/provisolaw08.InferApart", spec := "inferApart", unfollowed := true, recurses := true, apart := false }
def InferApartSaid : Prop := inferApartRow.holds Tryz.pinned (OpenSpec.ofChange inferApartSpec)

/-- ITS FALSE NEIGHBOUR: 'it returns false'. Refute it at one input. -/
def inferApartWrong : ChangeSpec := { name := "inferApart", fn := fun _ => fun
  | [d1, d2, d3] => { results := [.lit (.bool false)], args := [d1, d2, d3] }
  | _ => none }
def InferApartWrongFalsely : Prop := inferApartRow.holds Tryz.pinned (OpenSpec.ofChange inferApartWrong)

/- THE SECOND FORM. 'bulk': how many values and letters a reading holds, each counted each time it is reached (what is shared counts as often as it is met; a slice's spare places count too). A statement '..UptoSaid' is the law's where the arguments, and the package variables that the reading takes, are together of bulk at most 1048576: NARROWER than '..Said'. Prove '..Said' where nothing that the law and all that it calls make is longer than what came in: it says more and counts as full. Else prove '..UptoSaid'. A law counts once. -/
mutual
def uptoBulk {H : Type} : DataW H → Nat
  | .lit (.string bytes) => bytes.length + 1
  | .lit _ => 1
  | .nil => 1
  | .ptr d => uptoBulk d + 1
  | .slice elems spare => uptoBulkAll elems + uptoBulkAll spare + 1
  | .agg parts => uptoBulkAll parts + 1
  | .iface _ d => uptoBulk d + 1
  | .map entries => uptoBulkEntries entries + 1
  | .held _ => 1
def uptoBulkAll {H : Type} : List (DataW H) → Nat
  | [] => 0
  | d :: r => uptoBulk d + uptoBulkAll r
def uptoBulkEntries {H : Type} : List (Lit × DataW H) → Nat
  | [] => 0
  | x :: r => uptoBulkEntry x + uptoBulkEntries r
def uptoBulkEntry {H : Type} : Lit × DataW H → Nat
  | (.string bytes, d) => bytes.length + uptoBulk d + 1
  | (_, d) => uptoBulk d + 1
 end
def uptoSmall : (H : Type) → List (DataW H) → Bool := fun _ ds => decide (uptoBulkAll ds ≤ 1048576)
def OpenSpec.upto (s : _root_.Go.ChangeSpec) : _root_.Go.OpenSpec := { _root_.Go.OpenSpec.ofChange s with cond := some uptoSmall }

/-- 'provisolaw08.InferFixed', WHERE WHAT IT READS IS OF BULK AT MOST 1048576: true; the input reads as it did. -/
def inferFixedUptoRow : OpenClaim := { program := "ytjffaachihpjbaagreat", sum := "59c30ab485cdb36078bc5f7ee7a0a3ac4ac05d4af7a6fbf274bbf589e35ca4fc", func := "proviso/provisolaw08.InferFixed", spec := "inferFixed", unfollowed := true, recurses := true, apart := false, narrowed := true }
def InferFixedUptoSaid : Prop := inferFixedUptoRow.holds Tryz.pinned (OpenSpec.upto inferFixedSpec)

/-- 'provisolaw08.InferLeast', WHERE WHAT IT READS IS OF BULK AT MOST 1048576: true; the input reads as it did. -/
def inferLeastUptoRow : OpenClaim := { program := "ytjffaachihpjbaagreat", sum := "59c30ab485cdb36078bc5f7ee7a0a3ac4ac05d4af7a6fbf274bbf589e35ca4fc", func := "proviso/provisolaw08.InferLeast", spec := "inferLeast", unfollowed := true, recurses := true, apart := false, narrowed := true }
def InferLeastUptoSaid : Prop := inferLeastUptoRow.holds Tryz.pinned (OpenSpec.upto inferLeastSpec)

/-- 'provisolaw08.InferKnows', WHERE WHAT IT READS IS OF BULK AT MOST 1048576: true; the input reads as it did. -/
def inferKnowsUptoRow : OpenClaim := { program := "ytjffaachihpjbaagreat", sum := "59c30ab485cdb36078bc5f7ee7a0a3ac4ac05d4af7a6fbf274bbf589e35ca4fc", func := "proviso/provisolaw08.InferKnows", spec := "inferKnows", unfollowed := true, recurses := true, apart := false, narrowed := true }
def InferKnowsUptoSaid : Prop := inferKnowsUptoRow.holds Tryz.pinned (OpenSpec.upto inferKnowsSpec)

/-- 'provisolaw08.InferReached', WHERE WHAT IT READS IS OF BULK AT MOST 1048576: true; the input reads as it did. -/
def inferReachedUptoRow : OpenClaim := { program := "ytjffaachihpjbaagreat", sum := "59c30ab485cdb36078bc5f7ee7a0a3ac4ac05d4af7a6fbf274bbf589e35ca4fc", func := "proviso/provisolaw08.InferReached", spec := "inferReached", unfollowed := true, recurses := true, apart := false, narrowed := true }
def InferReachedUptoSaid : Prop := inferReachedUptoRow.holds Tryz.pinned (OpenSpec.upto inferReachedSpec)

/-- 'provisolaw08.InferFew', WHERE WHAT IT READS IS OF BULK AT MOST 1048576: true; the input reads as it did. -/
def inferFewUptoRow : OpenClaim := { program := "ytjffaachihpjbaagreat", sum := "59c30ab485cdb36078bc5f7ee7a0a3ac4ac05d4af7a6fbf274bbf589e35ca4fc", func := "proviso/provisolaw08.InferFew", spec := "inferFew", unfollowed := true, recurses := true, apart := false, narrowed := true }
def InferFewUptoSaid : Prop := inferFewUptoRow.holds Tryz.pinned (OpenSpec.upto inferFewSpec)

/-- 'provisolaw08.InferApart', WHERE WHAT IT READS IS OF BULK AT MOST 1048576: true; the input reads as it did. -/
def inferApartUptoRow : OpenClaim := { program := "ytjffaachihpjbaagreat", sum := "59c30ab485cdb36078bc5f7ee7a0a3ac4ac05d4af7a6fbf274bbf589e35ca4fc", func := "proviso/provisolaw08.InferApart", spec := "inferApart", unfollowed := true, recurses := true, apart := false, narrowed := true }
def InferApartUptoSaid : Prop := inferApartUptoRow.holds Tryz.pinned (OpenSpec.upto inferApartSpec)

end Rows
end Go.Proofs.YtjffaachihpjbaaGreat
