/- Laid together from: CheckP. -/
import Derived.Test.YteiknefajlocoaaSpecRunsB4
import Derived.Test.YteiknefajlocoaaSpecRunsB3

namespace Go.Proofs.Yteiknefajlocoaa
open Go.RowKit
set_option linter.unusedSimpArgs false
set_option linter.unusedVariables false
end Go.Proofs.Yteiknefajlocoaa
