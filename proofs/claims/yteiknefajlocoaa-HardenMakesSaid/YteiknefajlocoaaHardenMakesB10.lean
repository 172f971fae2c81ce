/- Laid together from: Num, Ref1, Ref1b. -/
import Derived.Test.YteiknefajlocoaaProg
import Derived.Test.YteiknefajlocoaaHardenMakesB3
import Derived.Test.YteiknefajlocoaaHardenMakesB6
import Derived.WalkLawsBesides
import Derived.WalkSpells
import Derived.Outline

/- What num.Op and num.Holds return, for any numbers: the walks. -/
namespace Go.Proofs.Yteiknefajlocoaa
open Go.ChangeShapes Go.WideShapes Go.ChangeAt Go.RowKit

end Go.Proofs.Yteiknefajlocoaa
/- The reference's numbers: walks. -/
namespace Go.Proofs.Yteiknefajlocoaa
open Go.ChangeShapes Go.WideShapes Go.ChangeAt Go.RowKit

end Go.Proofs.Yteiknefajlocoaa
/- The reference's numbers: dividing; the operations; the conditions: walks. -/
namespace Go.Proofs.Yteiknefajlocoaa
open Go.ChangeShapes Go.WideShapes Go.ChangeAt Go.RowKit

end Go.Proofs.Yteiknefajlocoaa
