/- Laid together from: KnownL, CheckL. -/
import Derived.Test.YtkkekbnhndfhjaaDoorTextBackB3
import Derived.Test.YtkkekbnhndfhjaaDoorTextBackB14
import Derived.Test.YtkkekbnhndfhjaaDoorTextBackB6
import Derived.Test.YtkkekbnhndfhjaaDoorTextBackB5

namespace Go.Proofs.YtkkekbnhndfhjaaDoor
open Go.RowKit
end Go.Proofs.YtkkekbnhndfhjaaDoor

namespace Go.Proofs.YtkkekbnhndfhjaaDoor
open Go.RowKit
set_option linter.unusedSimpArgs false
set_option linter.unusedVariables false
end Go.Proofs.YtkkekbnhndfhjaaDoor
