/- Laid together from: Play7. -/
import Derived.Test.YtceocimckkgaoaaFindSameB23
import Derived.Deep.CutBlock
import Derived.Deep.CutRange

namespace Go.Proofs.Ytceocimckkgaoaa
open Go.ChangeShapes Go.WideShapes Go.ChangeAt Go.RowKit
set_option linter.unusedVariables false
set_option linter.unusedSimpArgs false
end Go.Proofs.Ytceocimckkgaoaa
