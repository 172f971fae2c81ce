/- Laid together from: NumP, Sem, SemL, Flat, SpecL, Quiet. -/
import Derived.WalkKit
import Derived.Laws.BitsAllLaws
import Derived.Laws.BitsLemmas
import Derived.Test.YtkkekbnhndfhjaaDoorTextAgainB1

namespace Go.Proofs.YtkkekbnhndfhjaaDoor
open Go.RowKit
def u64 (n : Int) : Int := n % 18446744073709551616
structure LSee where
  kind : Int
  a : Int
  b : Int
  deriving DecidableEq, Inhabited
def rg (r : List Int) (i : Int) : Int := r.getD i.toNat 0
structure Plc where
  regs : List Int
  words : List Int
  past : List (List Int)
  at_ : Nat
  deriving DecidableEq, Inhabited
structure Spc where
  pl : Plc
  fin : Int
  value : Int
  steps : Nat
  seen : List LSee
  script : List Int
  ahead : Bool
  since : Int
  back : Plc
  deriving DecidableEq, Inhabited
def Spc.leave (s : Spc) : Spc := if s.ahead then s else { s with ahead := true, since := -1, back := s.pl }
section
variable (s : Spc)
@[simp] theorem leave_steps : s.leave.steps = s.steps := by unfold Spc.leave; split <;> rfl
@[simp] theorem leave_fin : s.leave.fin = s.fin := by unfold Spc.leave; split <;> rfl
@[simp] theorem leave_value : s.leave.value = s.value := by unfold Spc.leave; split <;> rfl
@[simp] theorem leave_seen : s.leave.seen = s.seen := by unfold Spc.leave; split <;> rfl
@[simp] theorem leave_script : s.leave.script = s.script := by unfold Spc.leave; split <;> rfl
@[simp] theorem leave_pl : s.leave.pl = s.pl := by unfold Spc.leave; split <;> rfl
@[simp] theorem leave_ahead : s.leave.ahead = true := by unfold Spc.leave; split <;> simp_all
@[simp] theorem leave_back : s.leave.back = if s.ahead then s.back else s.pl := by unfold Spc.leave; split <;> rfl
@[simp] theorem leave_since : s.leave.since = if s.ahead then s.since else -1 := by unfold Spc.leave; split <;> rfl
end
end Go.Proofs.YtkkekbnhndfhjaaDoor

namespace Go.Proofs.YtkkekbnhndfhjaaDoor
open Go.RowKit
set_option linter.unusedSimpArgs false
set_option linter.unusedVariables false
section
variable {p : LProg} {C : Int → Prop} {IN IA : Plc → Plc → Prop} {End : List Int → List Int → Prop} {s t : Spc}
end
end Go.Proofs.YtkkekbnhndfhjaaDoor
