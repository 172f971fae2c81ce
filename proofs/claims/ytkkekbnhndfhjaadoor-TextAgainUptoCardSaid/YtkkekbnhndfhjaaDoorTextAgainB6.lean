/- Laid together from: CheckP. -/
import Derived.Test.YtkkekbnhndfhjaaDoorTextAgainB5
import Derived.Test.YtkkekbnhndfhjaaDoorTextAgainB3

namespace Go.Proofs.YtkkekbnhndfhjaaDoor
open Go.RowKit
set_option linter.unusedSimpArgs false
set_option linter.unusedVariables false
end Go.Proofs.YtkkekbnhndfhjaaDoor
