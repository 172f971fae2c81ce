/- Laid together from: CheckP. -/
import Derived.Test.YtalpnmjaafcpoaaFindTellsB4
import Derived.Test.YtalpnmjaafcpoaaFindTellsB3

namespace Go.Proofs.Ytalpnmjaafcpoaa
open Go.RowKit
set_option linter.unusedSimpArgs false
set_option linter.unusedVariables false
end Go.Proofs.Ytalpnmjaafcpoaa
