/- Laid together from: KnownP. -/
import Derived.WalkKit
import Derived.Lib.BitFns

namespace Go.Proofs.YtkkekbnhndfhjaaDoor
open Go.RowKit
end Go.Proofs.YtkkekbnhndfhjaaDoor
