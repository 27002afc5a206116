import Derived.Test.YtjffaachihpjbaaGreatRows
import Derived.JoinedOf
set_option maxRecDepth 100000
set_option linter.defProp false
namespace Go.AL
open Go.Proofs
open Go.Proofs.YtjffaachihpjbaaGreat
theorem facts6:joinedFacts Tryz.prog 6 Tryz.f6 Rows.inferReachedSpec Rows.inferReachedRow=true:=by kernel_rfl
end Go.AL
