import Derived.Test.YtjffaachihpjbaaGreatRows
import Derived.JoinedOf
set_option maxRecDepth 100000
set_option linter.defProp false
namespace Go.AL
open Go.Proofs
open Go.Proofs.YtjffaachihpjbaaGreat
theorem facts8:joinedFacts Tryz.prog 8 Tryz.f8 Rows.inferApartSpec Rows.inferApartRow=true:=by kernel_rfl
end Go.AL
