/- CaneFor. -/
import Derived.Test.YtgjjmgneekjapaaDoorPairs4
namespace Go.Proofs.YtgjjmgneekjapaaDoor
open Go.RowKit
set_option linter.unusedVariables false
set_option linter.unusedSimpArgs false

def canes (f s a : Int) : Int := 2 * f * a * s + 2 * s * a * f + 2 * a * (min f s) * (min f s - 1)
def caneV (f b s a : Int) : Int × Int := if okSeat f b s then (if inB a 5 50 then (canes f s a, 0) else (0, 2)) else (0, 1)

end Go.Proofs.YtgjjmgneekjapaaDoor
