/- Laid together from: Bar. -/
import Derived.Test.YtiiollmbogojoaaRows
import Derived.JoinedOf

namespace Go.Proofs.Ytiiollmbogojoaa
open Go
theorem bar_enter : Try.pinned.checked.prog.mayEnter = true := by decide +kernel
theorem bar_lifts : Try.pinned.checked.prog.liftsFinal = false := by decide +kernel
theorem bar_make : (Try.pinned.checked.prog.make == some Make.cut) = true := by decide +kernel
end Go.Proofs.Ytiiollmbogojoaa
