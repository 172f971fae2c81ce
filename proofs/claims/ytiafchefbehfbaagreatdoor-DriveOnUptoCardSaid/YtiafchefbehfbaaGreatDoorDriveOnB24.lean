/- Laid together from: Same8. -/
import Derived.Test.YtiafchefbehfbaaGreatDoorDriveOnB23
import Derived.Test.YtiafchefbehfbaaGreatDoorDriveOnB13
import Derived.Test.YtiafchefbehfbaaGreatDoorDriveOnB14

namespace Go.Proofs.YtiafchefbehfbaaGreatDoor
open Go.ChangeShapes Go.WideShapes Go.ChangeAt Go.RowKit
set_option linter.unusedVariables false
set_option linter.unusedSimpArgs false
end Go.Proofs.YtiafchefbehfbaaGreatDoor
