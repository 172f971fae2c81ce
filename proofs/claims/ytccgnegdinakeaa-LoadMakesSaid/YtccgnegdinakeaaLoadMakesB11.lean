/- Laid together from: Num, Ref1, Ref1b. -/
import Derived.Test.YtccgnegdinakeaaProg
import Derived.Test.YtccgnegdinakeaaLoadMakesB3
import Derived.Test.YtccgnegdinakeaaLoadMakesB6
import Derived.WalkLawsBesides
import Derived.WalkSpells
import Derived.Outline

/- What num.Op and num.Holds return, for any numbers: the walks. -/
namespace Go.Proofs.Ytccgnegdinakeaa
open Go.ChangeShapes Go.WideShapes Go.ChangeAt Go.RowKit

end Go.Proofs.Ytccgnegdinakeaa
/- The reference's numbers: walks. -/
namespace Go.Proofs.Ytccgnegdinakeaa
open Go.ChangeShapes Go.WideShapes Go.ChangeAt Go.RowKit

end Go.Proofs.Ytccgnegdinakeaa
/- The reference's numbers: dividing; the operations; the conditions: walks. -/
namespace Go.Proofs.Ytccgnegdinakeaa
open Go.ChangeShapes Go.WideShapes Go.ChangeAt Go.RowKit

end Go.Proofs.Ytccgnegdinakeaa
