/- Laid together from: Same8. -/
import Derived.Test.YteiknefajlocoaaFindNothingB23
import Derived.Test.YteiknefajlocoaaFindNothingB9
import Derived.Test.YteiknefajlocoaaFindNothingB10

namespace Go.Proofs.Yteiknefajlocoaa
open Go.ChangeShapes Go.WideShapes Go.ChangeAt Go.RowKit
set_option linter.unusedVariables false
set_option linter.unusedSimpArgs false
end Go.Proofs.Yteiknefajlocoaa
