/- Laid together from: Bar. -/
import Derived.Test.YtceocimckkgaoaaRows
import Derived.JoinedOf

namespace Go.Proofs.Ytceocimckkgaoaa
open Go
theorem Qeb : Try.pinned.checked.prog.mayEnter = true := by decide +kernel
theorem Qea : Try.pinned.checked.prog.liftsFinal = false := by decide +kernel
theorem Qe9 : (Try.pinned.checked.prog.make == some Make.cut) = true := by decide +kernel
end Go.Proofs.Ytceocimckkgaoaa
