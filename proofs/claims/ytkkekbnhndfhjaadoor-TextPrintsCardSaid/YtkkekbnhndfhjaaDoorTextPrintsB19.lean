/- Laid together from: TxL1. -/
import Derived.Test.YtkkekbnhndfhjaaDoorRows
import Derived.Test.YtkkekbnhndfhjaaDoorTextPrintsB17
import Derived.Lib.LaidTab
import Derived.MakeChecks
import Derived.Stop.LaidErr

namespace Go.Proofs.YtkkekbnhndfhjaaDoor.textPrints
open Go.ChangeShapes Go.WideShapes Go.ChangeAt Go.RowKit
set_option maxRecDepth 100000 in
theorem tabs_of_laid {W : World} (h : laidMetH Tryd.prog Rows.textPrintsRow.laid W) : Tabs W := by
  rw [MakeChecks.laidMetH_plain _ _ _ (by kernel_rfl)] at h
  have h3 := h.tail.tail
  have h5 := h3.tail.tail
  constructor
  · exact Lib.tabIs_of_head (g := 1) (t := 106) (by kernel_rfl) (by kernel_rfl) Tryd.underlying106 Tryd.underlying5 (by kernel_rfl) (by kernel_rfl) h5
  · exact Lib.tabIs_of_head (g := 3) (t := 131) (by kernel_rfl) (by kernel_rfl) Tryd.underlying131 Tryd.underlying110 (by kernel_rfl) (by kernel_rfl) h3
end Go.Proofs.YtkkekbnhndfhjaaDoor.textPrints
