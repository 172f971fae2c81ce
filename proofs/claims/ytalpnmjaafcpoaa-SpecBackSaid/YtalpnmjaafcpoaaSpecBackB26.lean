/- Laid together from: Play7. -/
import Derived.Test.YtalpnmjaafcpoaaSpecBackB24
import Derived.Test.YtalpnmjaafcpoaaSpecBackB23
import Derived.Deep.CutBlock
import Derived.Deep.CutRange

namespace Go.Proofs.Ytalpnmjaafcpoaa
open Go.ChangeShapes Go.WideShapes Go.ChangeAt Go.RowKit
set_option linter.unusedVariables false
set_option linter.unusedSimpArgs false
end Go.Proofs.Ytalpnmjaafcpoaa
