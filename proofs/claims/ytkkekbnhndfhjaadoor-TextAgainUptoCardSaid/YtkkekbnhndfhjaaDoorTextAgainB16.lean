/- Laid together from: KnownL, CheckL. -/
import Derived.Test.YtkkekbnhndfhjaaDoorTextAgainB3
import Derived.Test.YtkkekbnhndfhjaaDoorTextAgainB14
import Derived.Test.YtkkekbnhndfhjaaDoorTextAgainB6
import Derived.Test.YtkkekbnhndfhjaaDoorTextAgainB5

namespace Go.Proofs.YtkkekbnhndfhjaaDoor
open Go.RowKit
end Go.Proofs.YtkkekbnhndfhjaaDoor

namespace Go.Proofs.YtkkekbnhndfhjaaDoor
open Go.RowKit
set_option linter.unusedSimpArgs false
set_option linter.unusedVariables false
end Go.Proofs.YtkkekbnhndfhjaaDoor
