/- Laid together from: Same8. -/
import Derived.Test.YteiknefajlocoaaLoadQuietB21
import Derived.Test.YteiknefajlocoaaLoadQuietB8
import Derived.Test.YteiknefajlocoaaLoadQuietB9

namespace Go.Proofs.Yteiknefajlocoaa
open Go.ChangeShapes Go.WideShapes Go.ChangeAt Go.RowKit
set_option linter.unusedVariables false
set_option linter.unusedSimpArgs false
theorem Qmw (w : World) : Q07 w (.agg #[.slice none 0 0, .slice none 0 0]) ⟨[], []⟩ :=
 ⟨_, _, rfl, ⟨by simp, none, 0, 0, 0, rfl, by simp, by decide, ⟨fun h => by simp at h, fun i j hi hj => by simp at hi⟩⟩, ⟨by simp, none, 0, 0, 0, rfl, by simp, by decide, ⟨fun h => by simp at h, fun i j hi hj => by simp at hi⟩⟩⟩
end Go.Proofs.Yteiknefajlocoaa
