/- Laid together from: Same8. -/
import Derived.Test.YtkkekbnhndfhjaaDoorTextAgainB20
import Derived.Test.YtkkekbnhndfhjaaDoorTextAgainB12
import Derived.Test.YtkkekbnhndfhjaaDoorTextAgainB13

namespace Go.Proofs.YtkkekbnhndfhjaaDoor
open Go.ChangeShapes Go.WideShapes Go.ChangeAt Go.RowKit
set_option linter.unusedVariables false
set_option linter.unusedSimpArgs false
end Go.Proofs.YtkkekbnhndfhjaaDoor
