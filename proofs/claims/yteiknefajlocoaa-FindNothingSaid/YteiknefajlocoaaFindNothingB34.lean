/- Laid together from: Play7. -/
import Derived.Test.YteiknefajlocoaaFindNothingB31
import Derived.Test.YteiknefajlocoaaFindNothingB29
import Derived.Deep.CutBlock
import Derived.Deep.CutRange

namespace Go.Proofs.Yteiknefajlocoaa
open Go.ChangeShapes Go.WideShapes Go.ChangeAt Go.RowKit
set_option linter.unusedVariables false
set_option linter.unusedSimpArgs false
end Go.Proofs.Yteiknefajlocoaa
