/- Compare, by its walk -/
import Derived.Test.YtckeaibamgkegaaDoorRatH
import Derived.Deep.DeepCutAuto
set_option linter.all false
namespace Go.Proofs.YtckeaibamgkegaaDoor
open Go.RowKit
set_option maxRecDepth 100000

def cmpI (x y : Int) : Int := if x < y then -1 else if x = y then 0 else 1

end Go.Proofs.YtckeaibamgkegaaDoor
