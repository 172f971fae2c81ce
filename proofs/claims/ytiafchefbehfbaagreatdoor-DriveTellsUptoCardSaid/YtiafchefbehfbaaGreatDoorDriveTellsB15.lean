/- Laid together from: Ref1P. -/
import Derived.Test.YtiafchefbehfbaaGreatDoorDriveTellsB5
import Derived.Test.YtiafchefbehfbaaGreatDoorDriveTellsB11

namespace Go.Proofs.YtiafchefbehfbaaGreatDoor
open Go.RowKit
def tb (n:Int) (i:Nat):Bool:=decide (n / 2 ^ i % 2=1)
def mv (f:Nat→Bool) (s:Int) (i:Nat):Bool:=decide (0≤(i:Int) - s) && decide ((i:Int) - s < 64) && f ((i:Int) - s).toNat
end Go.Proofs.YtiafchefbehfbaaGreatDoor
