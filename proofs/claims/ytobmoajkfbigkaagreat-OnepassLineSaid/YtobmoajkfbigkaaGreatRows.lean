/-
  No cell of these rows narrows 'for every input' (looked for: loops, veiled, ifaces, maps, wideKeys, modest, calm, conditions, laid).
  DERIVED. THE GIVEN ROWS OF THIS SEAT. 12 by the template 'for every input the law returns true; each argument reads behind the call as it read before'; 0 by the template 'total and deterministic' (their statements: YtobmoajkfbigkaaGreatTotals.lean).
  GIVEN WITH THE SEED: the statements are not yours to turn. If you find one false, say at which input.
  Laid BY PROGRAM, IN A SANDBOX (cutbox-rows.mjs): the forced cells as the released guide's own fill.sh prints them over the translation 4f82e62cbf246955… (all of the seat's roots in one cut). By AI agents, Wed Nov 11 2026. No macro, syntax, notation, axiom, sorry.
-/
import Derived.Test.YtobmoajkfbigkaaGreatChecked
import GoSem.Claim
import GoSem.ClaimJoined
import GoSem.ClaimMapViews
import Derived.JoinedTies
import Derived.KernelRfl
namespace Go.Proofs.YtobmoajkfbigkaaGreat
/- THE CELL 'sum', in the pinned program and in every row, IS THE sha256 OF THE DUMP (.gsa) THAT YtobmoajkfbigkaaGreatProg.lean LOADS. Nothing in Lean hashes anything: it is a label: what it is worth is what the hold of that sum in a sandbox is worth. -/
noncomputable def Tryz.pinned : Pinned := { name := "ytobmoajkfbigkaagreat", sum := "4f82e62cbf2469556bbc7f46bad155f96c4cc8776f28bfbc9873cfefb9c28494", checked := Tryz.checked }
namespace Rows
def none {H : Type} : Left H := { results := [], args := [] }

/-- 'provisolaw09.OnepassRises': WHATEVER THE INPUT: true; the input reads as it did. -/
def onepassRisesSpec : ChangeSpec := { name := "onepassRises", fn := fun _ => fun
  | [d1, d2] => { results := [.lit (.bool true)], args := [d1, d2] }
  | _ => none }
def onepassRisesRow : OpenClaim := { program := "ytobmoajkfbigkaagreat", sum := "4f82e62cbf2469556bbc7f46bad155f96c4cc8776f28bfbc9873cfefb9c28494", func := "proviso/provisolaw09.OnepassRises", spec := "onepassRises", unfollowed := true, recurses := true, apart := false }
def OnepassRisesSaid : Prop := onepassRisesRow.holds Tryz.pinned (OpenSpec.ofChange onepassRisesSpec)

/-- ITS FALSE NEIGHBOUR: 'it returns false'. Refute it at one input. -/
def onepassRisesWrong : ChangeSpec := { name := "onepassRises", fn := fun _ => fun
  | [d1, d2] => { results := [.lit (.bool false)], args := [d1, d2] }
  | _ => none }
def OnepassRisesWrongFalsely : Prop := onepassRisesRow.holds Tryz.pinned (OpenSpec.ofChange onepassRisesWrong)

/-- 'provisolaw09.OnepassLine': WHATEVER THE INPUT: true; the input reads as it did. -/
def onepassLineSpec : ChangeSpec := { name := "onepassLine", fn := fun _ => fun
  | [d1, d2, d3] => { results := [.lit (.bool true)], args := [d1, d2, d3] }
  | _ => none }
def onepassLineRow : OpenClaim := { program := "ytobmoajkfbigkaagreat", sum := "4f82e62cbf2469556bbc7f46bad155f96c4cc8776f28bfbc9873cfefb9c28494", func := "proviso/provisolaw09.OnepassLine", spec := "onepassLine", unfollowed := true, recurses := true, apart := false }
def OnepassLineSaid : Prop := onepassLineRow.holds Tryz.pinned (OpenSpec.ofChange onepassLineSpec)

/-- ITS FALSE NEIGHBOUR: 'it returns false'. Refute it at one input. -/
def onepassLineWrong : ChangeSpec := { name := "onepassLine", fn := fun _ => fun
  | [d1, d2, d3] => { results := [.lit (.bool false)], args := [d1, d2, d3] }
  | _ => none }
def OnepassLineWrongFalsely : Prop := onepassLineRow.holds Tryz.pinned (OpenSpec.ofChange onepassLineWrong)

/-- 'provisolaw09.OnepassChecks': WHATEVER THE INPUT: true; the input reads as it did. -/
def onepassChecksSpec : ChangeSpec := { name := "onepassChecks", fn := fun _ => fun
  | [d1, d2] => { results := [.lit (.bool true)], args := [d1, d2] }
  | _ => none }
def onepassChecksRow : OpenClaim := { program := "ytobmoajkfbigkaagreat", sum := "4f82e62cbf2469556bbc7f46bad155f96c4cc8776f28bfbc9873cfefb9c28494", func := "proviso/provisolaw09.OnepassChecks", spec := "onepassChecks", unfollowed := true, recurses := true, apart := false }
def OnepassChecksSaid : Prop := onepassChecksRow.holds Tryz.pinned (OpenSpec.ofChange onepassChecksSpec)

/-- ITS FALSE NEIGHBOUR: 'it returns false'. Refute it at one input. -/
def onepassChecksWrong : ChangeSpec := { name := "onepassChecks", fn := fun _ => fun
  | [d1, d2] => { results := [.lit (.bool false)], args := [d1, d2] }
  | _ => none }
def OnepassChecksWrongFalsely : Prop := onepassChecksRow.holds Tryz.pinned (OpenSpec.ofChange onepassChecksWrong)

/-- 'provisolaw09.OnepassDead': WHATEVER THE INPUT: true; the input reads as it did. -/
def onepassDeadSpec : ChangeSpec := { name := "onepassDead", fn := fun _ => fun
  | [d1, d2, d3] => { results := [.lit (.bool true)], args := [d1, d2, d3] }
  | _ => none }
def onepassDeadRow : OpenClaim := { program := "ytobmoajkfbigkaagreat", sum := "4f82e62cbf2469556bbc7f46bad155f96c4cc8776f28bfbc9873cfefb9c28494", func := "proviso/provisolaw09.OnepassDead", spec := "onepassDead", unfollowed := true, recurses := true, apart := false }
def OnepassDeadSaid : Prop := onepassDeadRow.holds Tryz.pinned (OpenSpec.ofChange onepassDeadSpec)

/-- ITS FALSE NEIGHBOUR: 'it returns false'. Refute it at one input. -/
def onepassDeadWrong : ChangeSpec := { name := "onepassDead", fn := fun _ => fun
  | [d1, d2, d3] => { results := [.lit (.bool false)], args := [d1, d2, d3] }
  | _ => none }
def OnepassDeadWrongFalsely : Prop := onepassDeadRow.holds Tryz.pinned (OpenSpec.ofChange onepassDeadWrong)

/-- 'provisolaw09.OnepassPanics': WHATEVER THE INPUT: true; the input reads as it did. -/
def onepassPanicsSpec : ChangeSpec := { name := "onepassPanics", fn := fun _ => fun
  | [d1, d2, d3] => { results := [.lit (.bool true)], args := [d1, d2, d3] }
  | _ => none }
def onepassPanicsRow : OpenClaim := { program := "ytobmoajkfbigkaagreat", sum := "4f82e62cbf2469556bbc7f46bad155f96c4cc8776f28bfbc9873cfefb9c28494", func := "proviso/provisolaw09.OnepassPanics", spec := "onepassPanics", unfollowed := true, recurses := true, apart := false }
def OnepassPanicsSaid : Prop := onepassPanicsRow.holds Tryz.pinned (OpenSpec.ofChange onepassPanicsSpec)

/-- ITS FALSE NEIGHBOUR: 'it returns false'. Refute it at one input. -/
def onepassPanicsWrong : ChangeSpec := { name := "onepassPanics", fn := fun _ => fun
  | [d1, d2, d3] => { results := [.lit (.bool false)], args := [d1, d2, d3] }
  | _ => none }
def OnepassPanicsWrongFalsely : Prop := onepassPanicsRow.holds Tryz.pinned (OpenSpec.ofChange onepassPanicsWrong)

/-- 'provisolaw09.OnepassWatches': WHATEVER THE INPUT: true; the input reads as it did. -/
def onepassWatchesSpec : ChangeSpec := { name := "onepassWatches", fn := fun _ => fun
  | [d1, d2, d3] => { results := [.lit (.bool true)], args := [d1, d2, d3] }
  | _ => none }
def onepassWatchesRow : OpenClaim := { program := "ytobmoajkfbigkaagreat", sum := "4f82e62cbf2469556bbc7f46bad155f96c4cc8776f28bfbc9873cfefb9c28494", func := "proviso/provisolaw09.OnepassWatches", spec := "onepassWatches", unfollowed := true, recurses := true, apart := false }
def OnepassWatchesSaid : Prop := onepassWatchesRow.holds Tryz.pinned (OpenSpec.ofChange onepassWatchesSpec)

/-- ITS FALSE NEIGHBOUR: 'it returns false'. Refute it at one input. -/
def onepassWatchesWrong : ChangeSpec := { name := "onepassWatches", fn := fun _ => fun
  | [d1, d2, d3] => { results := [.lit (.bool false)], args := [d1, d2, d3] }
  | _ => none }
def OnepassWatchesWrongFalsely : Prop := onepassWatchesRow.holds Tryz.pinned (OpenSpec.ofChange onepassWatchesWrong)

/-- 'provisolaw09.OnepassModules': WHATEVER THE INPUT: true; the input reads as it did. -/
def onepassModulesSpec : ChangeSpec := { name := "onepassModules", fn := fun _ => fun
  | [d] => { results := [.lit (.bool true)], args := [d] }
  | _ => none }
def onepassModulesRow : OpenClaim := { program := "ytobmoajkfbigkaagreat", sum := "4f82e62cbf2469556bbc7f46bad155f96c4cc8776f28bfbc9873cfefb9c28494", func := "proviso/provisolaw09.OnepassModules", spec := "onepassModules", unfollowed := true, recurses := true, apart := false }
def OnepassModulesSaid : Prop := onepassModulesRow.holds Tryz.pinned (OpenSpec.ofChange onepassModulesSpec)

/-- ITS FALSE NEIGHBOUR: 'it returns false'. Refute it at one input. -/
def onepassModulesWrong : ChangeSpec := { name := "onepassModules", fn := fun _ => fun
  | [d] => { results := [.lit (.bool false)], args := [d] }
  | _ => none }
def OnepassModulesWrongFalsely : Prop := onepassModulesRow.holds Tryz.pinned (OpenSpec.ofChange onepassModulesWrong)

/-- 'provisolaw08.InferFinds': WHATEVER THE INPUT: true; the input reads as it did. -/
def inferFindsSpec : ChangeSpec := { name := "inferFinds", fn := fun _ => fun
  | [d1, d2, d3] => { results := [.lit (.bool true)], args := [d1, d2, d3] }
  | _ => none }
def inferFindsRow : OpenClaim := { program := "ytobmoajkfbigkaagreat", sum := "4f82e62cbf2469556bbc7f46bad155f96c4cc8776f28bfbc9873cfefb9c28494", func := "proviso/provisolaw08.InferFinds", spec := "inferFinds", unfollowed := true, recurses := true, apart := false }
def InferFindsSaid : Prop := inferFindsRow.holds Tryz.pinned (OpenSpec.ofChange inferFindsSpec)

/-- ITS FALSE NEIGHBOUR: 'it returns false'. Refute it at one input. -/
def inferFindsWrong : ChangeSpec := { name := "inferFinds", fn := fun _ => fun
  | [d1, d2, d3] => { results := [.lit (.bool false)], args := [d1, d2, d3] }
  | _ => none }
def InferFindsWrongFalsely : Prop := inferFindsRow.holds Tryz.pinned (OpenSpec.ofChange inferFindsWrong)

/-- 'provisolaw08.InferEmits': WHATEVER THE INPUT: true; the input reads as it did. -/
def inferEmitsSpec : ChangeSpec := { name := "inferEmits", fn := fun _ => fun
  | [d1, d2, d3] => { results := [.lit (.bool true)], args := [d1, d2, d3] }
  | _ => none }
def inferEmitsRow : OpenClaim := { program := "ytobmoajkfbigkaagreat", sum := "4f82e62cbf2469556bbc7f46bad155f96c4cc8776f28bfbc9873cfefb9c28494", func := "proviso/provisolaw08.InferEmits", spec := "inferEmits", unfollowed := true, recurses := true, apart := false }
def InferEmitsSaid : Prop := inferEmitsRow.holds Tryz.pinned (OpenSpec.ofChange inferEmitsSpec)

/-- ITS FALSE NEIGHBOUR: 'it returns false'. Refute it at one input. -/
def inferEmitsWrong : ChangeSpec := { name := "inferEmits", fn := fun _ => fun
  | [d1, d2, d3] => { results := [.lit (.bool false)], args := [d1, d2, d3] }
  | _ => none }
def InferEmitsWrongFalsely : Prop := inferEmitsRow.holds Tryz.pinned (OpenSpec.ofChange inferEmitsWrong)

/-- 'provisolaw08.InferModules': WHATEVER THE INPUT: true; the input reads as it did. -/
def inferModulesSpec : ChangeSpec := { name := "inferModules", fn := fun _ => fun
  | [d1, d2] => { results := [.lit (.bool true)], args := [d1, d2] }
  | _ => none }
def inferModulesRow : OpenClaim := { program := "ytobmoajkfbigkaagreat", sum := "4f82e62cbf2469556bbc7f46bad155f96c4cc8776f28bfbc9873cfefb9c28494", func := "proviso/provisolaw08.InferModules", spec := "inferModules", unfollowed := true, recurses := true, apart := false }
def InferModulesSaid : Prop := inferModulesRow.holds Tryz.pinned (OpenSpec.ofChange inferModulesSpec)

/-- ITS FALSE NEIGHBOUR: 'it returns false'. Refute it at one input. -/
def inferModulesWrong : ChangeSpec := { name := "inferModules", fn := fun _ => fun
  | [d1, d2] => { results := [.lit (.bool false)], args := [d1, d2] }
  | _ => none }
def InferModulesWrongFalsely : Prop := inferModulesRow.holds Tryz.pinned (OpenSpec.ofChange inferModulesWrong)

/-- 'provisolaw09.OnepassHigher': WHATEVER THE INPUT: true; the input reads as it did. -/
def onepassHigherSpec : ChangeSpec := { name := "onepassHigher", fn := fun _ => fun
  | [d1, d2] => { results := [.lit (.bool true)], args := [d1, d2] }
  | _ => none }
def onepassHigherRow : OpenClaim := { program := "ytobmoajkfbigkaagreat", sum := "4f82e62cbf2469556bbc7f46bad155f96c4cc8776f28bfbc9873cfefb9c28494", func := "proviso/provisolaw09.OnepassHigher", spec := "onepassHigher", unfollowed := true, recurses := true, apart := false }
def OnepassHigherSaid : Prop := onepassHigherRow.holds Tryz.pinned (OpenSpec.ofChange onepassHigherSpec)

/-- ITS FALSE NEIGHBOUR: 'it returns false'. Refute it at one input. -/
def onepassHigherWrong : ChangeSpec := { name := "onepassHigher", fn := fun _ => fun
  | [d1, d2] => { results := [.lit (.bool false)], args := [d1, d2] }
  | _ => none }
def OnepassHigherWrongFalsely : Prop := onepassHigherRow.holds Tryz.pinned (OpenSpec.ofChange onepassHigherWrong)

/-- 'provisolaw09.OnepassTakes': WHATEVER THE INPUT: true; the input reads as it did. -/
def onepassTakesSpec : ChangeSpec := { name := "onepassTakes", fn := fun _ => fun
  | [d1, d2, d3] => { results := [.lit (.bool true)], args := [d1, d2, d3] }
  | _ => none }
def onepassTakesRow : OpenClaim := { program := "ytobmoajkfbigkaagreat", sum := "4f82e62cbf2469556bbc7f46bad155f96c4cc8776f28bfbc9873cfefb9c28494", func := "proviso/provisolaw09.OnepassTakes", spec := "onepassTakes", unfollowed := true, recurses := true, apart := false }
def OnepassTakesSaid : Prop := onepassTakesRow.holds Tryz.pinned (OpenSpec.ofChange onepassTakesSpec)

/-- ITS FALSE NEIGHBOUR: 'it returns false'. Refute it at one input. -/
def onepassTakesWrong : ChangeSpec := { name := "onepassTakes", fn := fun _ => fun
  | [d1, d2, d3] => { results := [.lit (.bool false)], args := [d1, d2, d3] }
  | _ => none }
def OnepassTakesWrongFalsely : Prop := onepassTakesRow.holds Tryz.pinned (OpenSpec.ofChange onepassTakesWrong)

/- THE SECOND FORM. 'bulk': how many values and letters a reading holds, each counted each time it is reached (what is shared counts as often as it is met; a slice's spare places count too). A statement '..UptoSaid' is the law's where the arguments, and the package variables that the reading takes, are together of bulk at most 1048576: NARROWER than '..Said'. Prove '..Said' where nothing that the law and all that it calls make is longer than what came in: it says more and counts as full. Else prove '..UptoSaid'. A law counts once. -/
mutual
def uptoBulk {H : Type} : DataW H → Nat
  | .lit (.string bytes) => bytes.length + 1
  | .lit _ => 1
  | .nil => 1
  | .ptr d => uptoBulk d + 1
  | .slice elems spare => uptoBulkAll elems + uptoBulkAll spare + 1
  | .agg parts => uptoBulkAll parts + 1
  | .iface _ d => uptoBulk d + 1
  | .map entries => uptoBulkEntries entries + 1
  | .held _ => 1
def uptoBulkAll {H : Type} : List (DataW H) → Nat
  | [] => 0
  | d :: r => uptoBulk d + uptoBulkAll r
def uptoBulkEntries {H : Type} : List (Lit × DataW H) → Nat
  | [] => 0
  | x :: r => uptoBulkEntry x + uptoBulkEntries r
def uptoBulkEntry {H : Type} : Lit × DataW H → Nat
  | (.string bytes, d) => bytes.length + uptoBulk d + 1
  | (_, d) => uptoBulk d + 1
 end
def uptoSmall : (H : Type) → List (DataW H) → Bool := fun _ ds => decide (uptoBulkAll ds ≤ 1048576)
def OpenSpec.upto (s : _root_.Go.ChangeSpec) : _root_.Go.OpenSpec := { _root_.Go.OpenSpec.ofChange s with cond := some uptoSmall }

/-- 'provisolaw09.OnepassRises', WHERE WHAT IT READS IS OF BULK AT MOST 1048576: true; the input reads as it did. -/
def onepassRisesUptoRow : OpenClaim := { program := "ytobmoajkfbigkaagreat", sum := "4f82e62cbf2469556bbc7f46bad155f96c4cc8776f28bfbc9873cfefb9c28494", func := "proviso/provisolaw09.OnepassRises", spec := "onepassRises", unfollowed := true, recurses := true, apart := false, narrowed := true }
def OnepassRisesUptoSaid : Prop := onepassRisesUptoRow.holds Tryz.pinned (OpenSpec.upto onepassRisesSpec)

/-- 'provisolaw09.OnepassLine', WHERE WHAT IT READS IS OF BULK AT MOST 1048576: true; the input reads as it did. -/
def onepassLineUptoRow : OpenClaim := { program := "ytobmoajkfbigkaagreat", sum := "4f82e62cbf2469556bbc7f46bad155f96c4cc8776f28bfbc9873cfefb9c28494", func := "proviso/provisolaw09.OnepassLine", spec := "onepassLine", unfollowed := true, recurses := true, apart := false, narrowed := true }
def OnepassLineUptoSaid : Prop := onepassLineUptoRow.holds Tryz.pinned (OpenSpec.upto onepassLineSpec)

/-- 'provisolaw09.OnepassChecks', WHERE WHAT IT READS IS OF BULK AT MOST 1048576: true; the input reads as it did. -/
def onepassChecksUptoRow : OpenClaim := { program := "ytobmoajkfbigkaagreat", sum := "4f82e62cbf2469556bbc7f46bad155f96c4cc8776f28bfbc9873cfefb9c28494", func := "proviso/provisolaw09.OnepassChecks", spec := "onepassChecks", unfollowed := true, recurses := true, apart := false, narrowed := true }
def OnepassChecksUptoSaid : Prop := onepassChecksUptoRow.holds Tryz.pinned (OpenSpec.upto onepassChecksSpec)

/-- 'provisolaw09.OnepassDead', WHERE WHAT IT READS IS OF BULK AT MOST 1048576: true; the input reads as it did. -/
def onepassDeadUptoRow : OpenClaim := { program := "ytobmoajkfbigkaagreat", sum := "4f82e62cbf2469556bbc7f46bad155f96c4cc8776f28bfbc9873cfefb9c28494", func := "proviso/provisolaw09.OnepassDead", spec := "onepassDead", unfollowed := true, recurses := true, apart := false, narrowed := true }
def OnepassDeadUptoSaid : Prop := onepassDeadUptoRow.holds Tryz.pinned (OpenSpec.upto onepassDeadSpec)

/-- 'provisolaw09.OnepassPanics', WHERE WHAT IT READS IS OF BULK AT MOST 1048576: true; the input reads as it did. -/
def onepassPanicsUptoRow : OpenClaim := { program := "ytobmoajkfbigkaagreat", sum := "4f82e62cbf2469556bbc7f46bad155f96c4cc8776f28bfbc9873cfefb9c28494", func := "proviso/provisolaw09.OnepassPanics", spec := "onepassPanics", unfollowed := true, recurses := true, apart := false, narrowed := true }
def OnepassPanicsUptoSaid : Prop := onepassPanicsUptoRow.holds Tryz.pinned (OpenSpec.upto onepassPanicsSpec)

/-- 'provisolaw09.OnepassWatches', WHERE WHAT IT READS IS OF BULK AT MOST 1048576: true; the input reads as it did. -/
def onepassWatchesUptoRow : OpenClaim := { program := "ytobmoajkfbigkaagreat", sum := "4f82e62cbf2469556bbc7f46bad155f96c4cc8776f28bfbc9873cfefb9c28494", func := "proviso/provisolaw09.OnepassWatches", spec := "onepassWatches", unfollowed := true, recurses := true, apart := false, narrowed := true }
def OnepassWatchesUptoSaid : Prop := onepassWatchesUptoRow.holds Tryz.pinned (OpenSpec.upto onepassWatchesSpec)

/-- 'provisolaw09.OnepassModules', WHERE WHAT IT READS IS OF BULK AT MOST 1048576: true; the input reads as it did. -/
def onepassModulesUptoRow : OpenClaim := { program := "ytobmoajkfbigkaagreat", sum := "4f82e62cbf2469556bbc7f46bad155f96c4cc8776f28bfbc9873cfefb9c28494", func := "proviso/provisolaw09.OnepassModules", spec := "onepassModules", unfollowed := true, recurses := true, apart := false, narrowed := true }
def OnepassModulesUptoSaid : Prop := onepassModulesUptoRow.holds Tryz.pinned (OpenSpec.upto onepassModulesSpec)

/-- 'provisolaw08.InferFinds', WHERE WHAT IT READS IS OF BULK AT MOST 1048576: true; the input reads as it did. -/
def inferFindsUptoRow : OpenClaim := { program := "ytobmoajkfbigkaagreat", sum := "4f82e62cbf2469556bbc7f46bad155f96c4cc8776f28bfbc9873cfefb9c28494", func := "proviso/provisolaw08.InferFinds", spec := "inferFinds", unfollowed := true, recurses := true, apart := false, narrowed := true }
def InferFindsUptoSaid : Prop := inferFindsUptoRow.holds Tryz.pinned (OpenSpec.upto inferFindsSpec)

/-- 'provisolaw08.InferEmits', WHERE WHAT IT READS IS OF BULK AT MOST 1048576: true; the input reads as it did. -/
def inferEmitsUptoRow : OpenClaim := { program := "ytobmoajkfbigkaagreat", sum := "4f82e62cbf2469556bbc7f46bad155f96c4cc8776f28bfbc9873cfefb9c28494", func := "proviso/provisolaw08.InferEmits", spec := "inferEmits", unfollowed := true, recurses := true, apart := false, narrowed := true }
def InferEmitsUptoSaid : Prop := inferEmitsUptoRow.holds Tryz.pinned (OpenSpec.upto inferEmitsSpec)

/-- 'provisolaw08.InferModules', WHERE WHAT IT READS IS OF BULK AT MOST 1048576: true; the input reads as it did. -/
def inferModulesUptoRow : OpenClaim := { program := "ytobmoajkfbigkaagreat", sum := "4f82e62cbf2469556bbc7f46bad155f96c4cc8776f28bfbc9873cfefb9c28494", func := "proviso/provisolaw08.InferModules", spec := "inferModules", unfollowed := true, recurses := true, apart := false, narrowed := true }
def InferModulesUptoSaid : Prop := inferModulesUptoRow.holds Tryz.pinned (OpenSpec.upto inferModulesSpec)

/-- 'provisolaw09.OnepassHigher', WHERE WHAT IT READS IS OF BULK AT MOST 1048576: true; the input reads as it did. -/
def onepassHigherUptoRow : OpenClaim := { program := "ytobmoajkfbigkaagreat", sum := "4f82e62cbf2469556bbc7f46bad155f96c4cc8776f28bfbc9873cfefb9c28494", func := "proviso/provisolaw09.OnepassHigher", spec := "onepassHigher", unfollowed := true, recurses := true, apart := false, narrowed := true }
def OnepassHigherUptoSaid : Prop := onepassHigherUptoRow.holds Tryz.pinned (OpenSpec.upto onepassHigherSpec)

/-- 'provisolaw09.OnepassTakes', WHERE WHAT IT READS IS OF BULK AT MOST 1048576: true; the input reads as it did. -/
def onepassTakesUptoRow : OpenClaim := { program := "ytobmoajkfbigkaagreat", sum := "4f82e62cbf2469556bbc7f46bad155f96c4cc8776f28bfbc9873cfefb9c28494", func := "proviso/provisolaw09.OnepassTakes", spec := "onepassTakes", unfollowed := true, recurses := true, apart := false, narrowed := true }
def OnepassTakesUptoSaid : Prop := onepassTakesUptoRow.holds Tryz.pinned (OpenSpec.upto onepassTakesSpec)

end Rows
end Go.Proofs.YtobmoajkfbigkaaGreat
