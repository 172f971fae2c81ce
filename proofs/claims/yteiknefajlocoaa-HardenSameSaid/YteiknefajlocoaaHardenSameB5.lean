/- Laid together from: Bar. -/
import Derived.Test.YteiknefajlocoaaRows
import Derived.JoinedOf

/- Three facts of the whole program, each by itself: they are dear (each some 45 s and 8 GB), and the same for every statement. -/
namespace Go.Proofs.Yteiknefajlocoaa
open Go
theorem bar_enter : Try.pinned.checked.prog.mayEnter = true := by decide +kernel
theorem bar_lifts : Try.pinned.checked.prog.liftsFinal = false := by decide +kernel
theorem bar_make : (Try.pinned.checked.prog.make == some Make.cut) = true := by decide +kernel
end Go.Proofs.Yteiknefajlocoaa
