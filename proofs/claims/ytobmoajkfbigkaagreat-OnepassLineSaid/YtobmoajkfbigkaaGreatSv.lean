import Derived.Test.YtobmoajkfbigkaaGreatRows
import Derived.JoinedOf
set_option maxRecDepth 100000
set_option linter.defProp false
namespace Go.AL
open Go.Proofs
open Go.Proofs.YtobmoajkfbigkaaGreat
theorem facts4:joinedFacts Tryz.prog 4 Tryz.f4 Rows.onepassLineSpec Rows.onepassLineRow=true:=by kernel_rfl
end Go.AL
