import Derived.Test.YtjffaachihpjbaaGreatRows
import Derived.JoinedOf
set_option maxRecDepth 100000
set_option linter.defProp false
namespace Go.AL
open Go.Proofs
open Go.Proofs.YtjffaachihpjbaaGreat
theorem facts5:joinedFacts Tryz.prog 5 Tryz.f5 Rows.inferKnowsSpec Rows.inferKnowsRow=true:=by kernel_rfl
end Go.AL
