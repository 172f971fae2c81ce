/- Laid together from: TxP. -/
import Derived.Test.YtkkekbnhndfhjaaDoorTextParsesB1
import Derived.Lib.ItoaNum

namespace Go.Proofs.YtkkekbnhndfhjaaDoor
set_option linter.unusedVariables false
set_option linter.unusedSimpArgs false
def opsW : List (List UInt8) := [[97, 100, 100], [115, 117, 98], [109, 117, 108], [97, 110, 100], [111, 114], [120, 111, 114], [115, 104, 108], [115, 104, 114], [100, 105, 118], [109, 111, 100]]
def condsW : List (List UInt8) := [[115, 97, 109, 101], [111, 116, 104, 101, 114], [108, 101, 115, 115], [109, 111, 115, 116]]
def plainW : List (List UInt8) := [[], [115, 101, 116], [109, 111, 118, 101], [108, 111, 97, 100], [112, 117, 116], [108, 111, 97, 100, 107], [112, 117, 116, 107], [106, 117, 109, 112], [], [104, 97, 108, 116], [112, 108, 117, 115], [109, 97, 115, 107], [102, 101, 110, 99, 101]]
def wordT (op c : Int) : List UInt8 := if 20 < op then opsW.getD (op - 21).toNat [] else if op = 8 then condsW.getD (c - 1).toNat [] else plainW.getD op.toNat []
def followT (op : Int) : List UInt8 :=
  if 20 < op then [65, 66, 67] else if op = 1 ∨ op = 11 then [65, 78] else if op = 2 then [65, 66] else if op = 10 ∨ op = 8 then [65, 66, 78] else if op = 3 ∨ op = 4 then [65, 68, 66, 78] else if op = 5 ∨ op = 6 then [65, 68, 78] else if op = 7 then [78] else if op = 9 then [65] else []
end Go.Proofs.YtkkekbnhndfhjaaDoor
