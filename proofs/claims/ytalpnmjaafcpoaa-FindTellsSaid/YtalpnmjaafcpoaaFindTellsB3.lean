/- Laid together from: KnownP. -/
import Derived.WalkKit
import Derived.Lib.BitFns

namespace Go.Proofs.Ytalpnmjaafcpoaa
open Go.RowKit
end Go.Proofs.Ytalpnmjaafcpoaa
