import Derived.Test.YtobmoajkfbigkaaGreatRows
import Derived.JoinedOf
set_option maxRecDepth 100000
set_option linter.defProp false
namespace Go.AL
open Go.Proofs
open Go.Proofs.YtobmoajkfbigkaaGreat
theorem facts14:joinedFacts Tryz.prog 14 Tryz.f14 Rows.onepassTakesSpec Rows.onepassTakesRow=true:=by kernel_rfl
end Go.AL
