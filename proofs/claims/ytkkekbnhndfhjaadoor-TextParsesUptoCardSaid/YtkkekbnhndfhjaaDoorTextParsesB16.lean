/- Laid together from: KnownL, CheckL. -/
import Derived.Test.YtkkekbnhndfhjaaDoorTextParsesB3
import Derived.Test.YtkkekbnhndfhjaaDoorTextParsesB14
import Derived.Test.YtkkekbnhndfhjaaDoorTextParsesB6
import Derived.Test.YtkkekbnhndfhjaaDoorTextParsesB5

namespace Go.Proofs.YtkkekbnhndfhjaaDoor
open Go.RowKit
end Go.Proofs.YtkkekbnhndfhjaaDoor

namespace Go.Proofs.YtkkekbnhndfhjaaDoor
open Go.RowKit
set_option linter.unusedSimpArgs false
set_option linter.unusedVariables false
end Go.Proofs.YtkkekbnhndfhjaaDoor
