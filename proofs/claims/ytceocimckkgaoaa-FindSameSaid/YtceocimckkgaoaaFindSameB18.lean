/- Laid together from: Num, Ref1, Ref1b. -/
import Derived.Test.YtceocimckkgaoaaProg
import Derived.Test.YtceocimckkgaoaaFindSameB4
import Derived.Test.YtceocimckkgaoaaFindSameB6
import Derived.WalkLawsBesides
import Derived.WalkSpells
import Derived.Outline
import Derived.Test.YtceocimckkgaoaaFindSameB11

namespace Go.Proofs.Ytceocimckkgaoaa
open Go.ChangeShapes Go.WideShapes Go.ChangeAt Go.RowKit
set_option maxHeartbeats 1000000 in
theorem Q63 (op a b : Int) (w : World) :
  Calls Try.prog 59 #[.int .i64 op, .int .i64 a, .int .i64 b] w fun e w' => e = .returned (.int .i64 (nop op a b)) ∧ w = w' := by
 have H63 := and63' b
 have hu := Q47 b
 have hua := Q47 a
 go_enter Try.func59, Try.ntmps59
 go_wp2
 all_goals first
  | (exfalso; simp_all; done)
  | (go_ret; refine ⟨Q2b ?_, rfl⟩; simp_all [nop, Qa6, Q92, Q9h, Q9g])
theorem Qd9 (c op : Int) (is : Bool) (p : Addr) (w : World) (hc : w.cell? p = some (.int .i64 op)) :
  Calls Try.prog 60 #[.int .i64 c, .bool is, .pointer (some p)] w fun e w' => e = .returned (.bool (c == op && is)) ∧ w = w' := by
 go_enter Try.func60, Try.ntmps60
 go_wp2
 all_goals go_ret
 all_goals exact ⟨Q23 (by simp_all), rfl⟩
set_option maxHeartbeats 1000000 in
theorem Q8b (op a b : Int) (w : World) :
  Calls Try.prog 42 #[.int .i64 op, .int .i64 a, .int .i64 b] w fun e w' => e = .returned (.bool (Q4f op a b)) ∧ Ext w w' := by
 have hu := Q47 b
 have hua := Q47 a
 have hmf : ∀ (fn : Fn) (first cap : Array Value) (w : World), (Instr.makeFunc fn first cap).run Try.prog w = .ok (.func fn first cap) w := fun _ _ _ _ => rfl
 go_enter Try.func42, Try.ntmps42
 go_wp2_with (go_at_call 60; refine (Qd9 _ op _ _ _ (by go_cell)).mono ?_; rintro e w' ⟨rfl, rfl⟩)
 all_goals go_ret
 all_goals refine ⟨Q23 ?_, (Ext.refl _).alloc _⟩
 all_goals (rw [Bool.eq_iff_iff]; simp [Q4f]; grind)
end Go.Proofs.Ytceocimckkgaoaa
