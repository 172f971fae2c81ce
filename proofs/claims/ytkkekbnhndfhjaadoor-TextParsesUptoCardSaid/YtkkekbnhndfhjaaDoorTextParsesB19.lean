/- Laid together from: Tx1. -/
import Derived.Test.YtkkekbnhndfhjaaDoorTextParsesB4
import Derived.Test.YtkkekbnhndfhjaaDoorTextParsesB15
import Derived.Test.YtkkekbnhndfhjaaDoorTextParsesB11
import Derived.Test.YtkkekbnhndfhjaaDoorProg
import Derived.Laws.BytesArg
import Derived.Laws.Concat

namespace Go.Proofs.YtkkekbnhndfhjaaDoor
open Go.ChangeShapes Go.WideShapes Go.ChangeAt Go.RowKit
set_option linter.unusedVariables false
set_option linter.unusedSimpArgs false
abbrev str (l : List UInt8) : Value := .string ⟨l.toArray⟩
end Go.Proofs.YtkkekbnhndfhjaaDoor
