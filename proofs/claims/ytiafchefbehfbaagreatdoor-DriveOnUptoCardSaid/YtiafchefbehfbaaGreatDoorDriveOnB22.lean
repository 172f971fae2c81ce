/- Laid together from: Tx1. -/
import Derived.Test.YtiafchefbehfbaaGreatDoorDriveOnB3
import Derived.Test.YtiafchefbehfbaaGreatDoorDriveOnB17
import Derived.Test.YtiafchefbehfbaaGreatDoorDriveOnB11
import Derived.Test.YtiafchefbehfbaaGreatDoorProg
import Derived.Laws.BytesArg
import Derived.Laws.Concat

namespace Go.Proofs.YtiafchefbehfbaaGreatDoor
open Go.ChangeShapes Go.WideShapes Go.ChangeAt Go.RowKit
set_option linter.unusedVariables false
set_option linter.unusedSimpArgs false
abbrev str (l:List UInt8):Value:=.string ⟨l.toArray⟩
theorem Q3h (a b:List UInt8):(⟨a.toArray⟩:ByteArray) ++ ⟨b.toArray⟩=⟨(a ++ b).toArray⟩:=by
 apply ByteArray.ext
 rw [ByteArray.data_append]
 simp
theorem Qa7 (a b:List UInt8) (ha:a.length≤4000000) (hb:b.length≤4000000) (w:World):(Op.stringOp .add ⟨a.toArray⟩ ⟨b.toArray⟩).run Tryz.prog w=.ok (.string ⟨(a ++ b).toArray⟩) w:=by
 have h:=run_string_add (P:=Tryz.prog) (w:=w) ⟨a.toArray⟩ ⟨b.toArray⟩ (by simp [ByteArray.size];omega) (by simp [ByteArray.size];omega)
 rw [Q3h] at h
 exact h
end Go.Proofs.YtiafchefbehfbaaGreatDoor
