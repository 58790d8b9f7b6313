/- entries: what may be of a tag, a line; the looks over lines -/
import Derived.Test.YtckeaibamgkegaaDoorAudP
set_option linter.all false
namespace Go.Proofs.YtckeaibamgkegaaDoor
open Go.RowKit
set_option maxRecDepth 100000


end Go.Proofs.YtckeaibamgkegaaDoor
