/- Laid together from: Tx1. -/
import Derived.Test.YtkkekbnhndfhjaaDoorTextAgainB4
import Derived.Test.YtkkekbnhndfhjaaDoorTextAgainB15
import Derived.Test.YtkkekbnhndfhjaaDoorTextAgainB11
import Derived.Test.YtkkekbnhndfhjaaDoorProg
import Derived.Laws.BytesArg
import Derived.Laws.Concat

namespace Go.Proofs.YtkkekbnhndfhjaaDoor
open Go.ChangeShapes Go.WideShapes Go.ChangeAt Go.RowKit
set_option linter.unusedVariables false
set_option linter.unusedSimpArgs false
abbrev str (l : List UInt8) : Value := .string ⟨l.toArray⟩
theorem bytes_app (a b : List UInt8) : (⟨a.toArray⟩ : ByteArray) ++ ⟨b.toArray⟩ = ⟨(a ++ b).toArray⟩ := by
  apply ByteArray.ext
  rw [ByteArray.data_append]
  simp
end Go.Proofs.YtkkekbnhndfhjaaDoor
