import Derived.Test.YtjffaachihpjbaaGreatRows
import Derived.JoinedOf
set_option maxRecDepth 100000
set_option linter.defProp false
namespace Go.AL
open Go.Proofs
open Go.Proofs.YtjffaachihpjbaaGreat
theorem facts7:joinedFacts Tryz.prog 7 Tryz.f7 Rows.inferFewSpec Rows.inferFewRow=true:=by kernel_rfl
end Go.AL
