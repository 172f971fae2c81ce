/- Laid together from: Bar. -/
import Derived.Test.YtkkekbnhndfhjaaDoorRows
import Derived.JoinedOf

namespace Go.Proofs.YtkkekbnhndfhjaaDoor
open Go
theorem bar_enter : Tryd.pinned.checked.prog.mayEnter = true := by decide +kernel
theorem bar_lifts : Tryd.pinned.checked.prog.liftsFinal = false := by decide +kernel
theorem bar_make : (Tryd.pinned.checked.prog.make == some Make.cut) = true := by decide +kernel
end Go.Proofs.YtkkekbnhndfhjaaDoor
