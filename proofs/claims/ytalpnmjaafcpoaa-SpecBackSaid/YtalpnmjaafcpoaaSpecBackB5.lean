/- Laid together from: CheckP. -/
import Derived.Test.YtalpnmjaafcpoaaSpecBackB4
import Derived.Test.YtalpnmjaafcpoaaSpecBackB3

namespace Go.Proofs.Ytalpnmjaafcpoaa
open Go.RowKit
set_option linter.unusedSimpArgs false
set_option linter.unusedVariables false
end Go.Proofs.Ytalpnmjaafcpoaa
