/- Laid together from: KnownP. -/
import Derived.WalkKit
import Derived.Lib.BitFns

namespace Go.Proofs.Ytceocimckkgaoaa
open Go.RowKit
end Go.Proofs.Ytceocimckkgaoaa
