/- Laid together from: Same8. -/
import Derived.Test.YtiafchefbehfbaaGreatDoorDriveTellsB23
import Derived.Test.YtiafchefbehfbaaGreatDoorDriveTellsB13
import Derived.Test.YtiafchefbehfbaaGreatDoorDriveTellsB14

namespace Go.Proofs.YtiafchefbehfbaaGreatDoor
open Go.ChangeShapes Go.WideShapes Go.ChangeAt Go.RowKit
set_option linter.unusedVariables false
set_option linter.unusedSimpArgs false
end Go.Proofs.YtiafchefbehfbaaGreatDoor
