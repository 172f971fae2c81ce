/- Laid together from: Tx8, Tx9, Txa. -/
import Derived.Test.YtkkekbnhndfhjaaDoorTextParsesB26
import Derived.Laws.RangeString
import Derived.Laws.RangeAny
import Derived.Test.YtkkekbnhndfhjaaDoorTextParsesB22

namespace Go.Proofs.YtkkekbnhndfhjaaDoor
open Go.ChangeShapes Go.WideShapes Go.ChangeAt Go.RowKit
set_option linter.unusedVariables false
set_option linter.unusedSimpArgs false
theorem ext_grow (w : World) (k : Nat) (os : Array Obj) : Ext w (Go.Sort.grow (w.drewN k) os) := by
  have h0 : Ext w (w.drewN k) := (Ext.refl w).drewN k
  refine ⟨h0.os, h0.tape, h0.output, by simp [Go.Sort.grow], fun j hj => ?_⟩
  show ((w.drewN k).heap ++ os)[j]? = _
  rw [Array.getElem?_append_left (Nat.lt_of_lt_of_le hj h0.size)]
  exact Below.block h0 j hj
theorem fmt_c (n : Int) (h : R64 n) (w : World) (ht : Tabs w) : Calls Tryd.prog 45 #[.int .i64 n, .int .i64 10] w fun e w' => e = .returned (str (Lib.itoa n)) ∧ Ext w w' :=
  (Tryd.strconv_FormatInt_10 n h.1 h.2 w ht.ten).mono fun e w' ⟨h1, k, os, h2⟩ => ⟨h1, by rw [h2]; exact ext_grow w k os⟩
end Go.Proofs.YtkkekbnhndfhjaaDoor
