/- walks: a product of two ratios; what may be; the amounts' product through a number -/
import Derived.Test.YtckeaibamgkegaaDoorRatP
set_option linter.all false
namespace Go.Proofs.YtckeaibamgkegaaDoor
open Go.RowKit
set_option maxRecDepth 100000

end Go.Proofs.YtckeaibamgkegaaDoor
