import Derived.Test.YtjffaachihpjbaaGreatRows
import Derived.JoinedOf
set_option maxRecDepth 100000
set_option linter.defProp false
namespace Go.AL
open Go.Proofs
open Go.Proofs.YtjffaachihpjbaaGreat
theorem facts3:joinedFacts Tryz.prog 3 Tryz.f3 Rows.inferFixedSpec Rows.inferFixedRow=true:=by kernel_rfl
end Go.AL
