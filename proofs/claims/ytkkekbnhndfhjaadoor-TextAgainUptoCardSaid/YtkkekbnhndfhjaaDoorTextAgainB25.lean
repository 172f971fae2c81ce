/- Laid together from: Txd, Txf, Txe. -/
import Derived.Test.YtkkekbnhndfhjaaDoorTextAgainB23
import Derived.Test.YtkkekbnhndfhjaaDoorTextAgainB10

namespace Go.Proofs.YtkkekbnhndfhjaaDoor
open Go.ChangeShapes Go.WideShapes Go.ChangeAt Go.RowKit
set_option linter.unusedVariables false
set_option linter.unusedSimpArgs false
theorem all_facts : ∀ x ∈ allO, (1 ≤ x.1 ∧ x.1 ≤ 12 ∨ 21 ≤ x.1 ∧ x.1 ≤ 30) ∧ (x.1 = 8 → 1 ≤ x.2 ∧ x.2 ≤ 4) ∧ (x.1 ≠ 8 → x.2 = 0) := by decide +kernel
end Go.Proofs.YtkkekbnhndfhjaaDoor
