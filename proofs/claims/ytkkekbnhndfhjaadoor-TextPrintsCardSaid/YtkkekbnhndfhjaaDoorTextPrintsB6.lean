/- Laid together from: Own. -/
import Derived.Test.YtkkekbnhndfhjaaDoorTextPrintsB5
import Derived.OwnWalk

namespace Go.Proofs.YtkkekbnhndfhjaaDoor
open Go.RowKit
set_option linter.unusedVariables false
set_option linter.unusedSimpArgs false
end Go.Proofs.YtkkekbnhndfhjaaDoor
