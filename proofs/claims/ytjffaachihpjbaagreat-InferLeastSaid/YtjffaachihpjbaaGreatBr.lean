import Derived.Test.YtjffaachihpjbaaGreatRows
import Derived.JoinedOf
set_option maxRecDepth 100000
set_option linter.defProp false
namespace Go.AL
open Go.Proofs
open Go.Proofs.YtjffaachihpjbaaGreat
theorem facts4:joinedFacts Tryz.prog 4 Tryz.f4 Rows.inferLeastSpec Rows.inferLeastRow=true:=by kernel_rfl
end Go.AL
