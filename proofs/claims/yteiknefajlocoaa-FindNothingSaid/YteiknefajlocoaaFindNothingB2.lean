/- Laid together from: Bar. -/
import Derived.Test.YteiknefajlocoaaRows
import Derived.JoinedOf

namespace Go.Proofs.Yteiknefajlocoaa
open Go
theorem Qtm:Try.pinned.checked.prog.mayEnter=true:=by decide +kernel
theorem Qtl:Try.pinned.checked.prog.liftsFinal=false:=by decide +kernel
theorem Qtk:(Try.pinned.checked.prog.make == some Make.cut)=true:=by decide +kernel
end Go.Proofs.Yteiknefajlocoaa
