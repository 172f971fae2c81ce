/- Laid together from: CheckP. -/
import Derived.Test.YtceocimckkgaoaaFindSameB4
import Derived.Test.YtceocimckkgaoaaFindSameB3

namespace Go.Proofs.Ytceocimckkgaoaa
open Go.RowKit
set_option linter.unusedSimpArgs false
set_option linter.unusedVariables false
end Go.Proofs.Ytceocimckkgaoaa
