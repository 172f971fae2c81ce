/- Laid together from: Play7. -/
import Derived.Test.YtceocimckkgaoaaSpecPlainB24
import Derived.Test.YtceocimckkgaoaaSpecPlainB23
import Derived.Deep.CutBlock
import Derived.Deep.CutRange

namespace Go.Proofs.Ytceocimckkgaoaa
open Go.ChangeShapes Go.WideShapes Go.ChangeAt Go.RowKit
set_option linter.unusedVariables false
set_option linter.unusedSimpArgs false
end Go.Proofs.Ytceocimckkgaoaa
