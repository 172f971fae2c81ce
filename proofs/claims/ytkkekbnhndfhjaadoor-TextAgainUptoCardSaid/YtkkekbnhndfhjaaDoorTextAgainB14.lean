/- Laid together from: Ref1P. -/
import Derived.Test.YtkkekbnhndfhjaaDoorTextAgainB5
import Derived.Test.YtkkekbnhndfhjaaDoorTextAgainB11

namespace Go.Proofs.YtkkekbnhndfhjaaDoor
open Go.RowKit
def tb (n : Int) (i : Nat) : Bool := decide (n / 2 ^ i % 2 = 1)
end Go.Proofs.YtkkekbnhndfhjaaDoor
