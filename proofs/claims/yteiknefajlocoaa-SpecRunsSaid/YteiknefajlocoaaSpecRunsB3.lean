/- Laid together from: KnownP. -/
import Derived.WalkKit
import Derived.Lib.BitFns

namespace Go.Proofs.Yteiknefajlocoaa
open Go.RowKit
end Go.Proofs.Yteiknefajlocoaa
