/- Laid together from: Txe, Dr1, Txd. -/
import Derived.Test.YtiafchefbehfbaaGreatDoorDriveOnB29
import Derived.Test.YtiafchefbehfbaaGreatDoorDriveOnB10

namespace Go.Proofs.YtiafchefbehfbaaGreatDoor
open Go.ChangeShapes Go.WideShapes Go.ChangeAt Go.RowKit
set_option linter.unusedVariables false
set_option linter.unusedSimpArgs false
end Go.Proofs.YtiafchefbehfbaaGreatDoor
