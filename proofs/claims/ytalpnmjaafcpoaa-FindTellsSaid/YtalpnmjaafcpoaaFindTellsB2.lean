/- Laid together from: Bar. -/
import Derived.Test.YtalpnmjaafcpoaaRows
import Derived.JoinedOf

namespace Go.Proofs.Ytalpnmjaafcpoaa
open Go
theorem Qiu : Try.pinned.checked.prog.mayEnter = true := by decide +kernel
theorem Qit : Try.pinned.checked.prog.liftsFinal = false := by decide +kernel
theorem Qis : (Try.pinned.checked.prog.make == some Make.cut) = true := by decide +kernel
end Go.Proofs.Ytalpnmjaafcpoaa
