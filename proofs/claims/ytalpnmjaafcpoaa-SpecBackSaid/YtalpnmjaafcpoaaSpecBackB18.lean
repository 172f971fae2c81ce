/- Laid together from: Num, Ref1, Ref1b. -/
import Derived.Test.YtalpnmjaafcpoaaProg
import Derived.Test.YtalpnmjaafcpoaaSpecBackB4
import Derived.Test.YtalpnmjaafcpoaaSpecBackB6
import Derived.WalkLawsBesides
import Derived.WalkSpells
import Derived.Outline
import Derived.Test.YtalpnmjaafcpoaaSpecBackB11

namespace Go.Proofs.Ytalpnmjaafcpoaa
open Go.ChangeShapes Go.WideShapes Go.ChangeAt Go.RowKit
set_option maxHeartbeats 1000000 in
theorem Q6g (op a b : Int) (w : World) :
  Calls Try.prog 60 #[.int .i64 op, .int .i64 a, .int .i64 b] w fun e w' => e = .returned (.int .i64 (nop op a b)) ∧ w = w' := by
 have H63 := and63' b
 have hu := Q4g b
 have hua := Q4g a
 go_enter Try.func60, Try.ntmps60
 go_wp2
 all_goals first
  | (exfalso; simp_all; done)
  | (go_ret; refine ⟨Q2g ?_, rfl⟩; simp_all [nop, Qat, Q9l, Q9z, Q9y])
theorem Qdx (c op : Int) (is : Bool) (p : Addr) (w : World) (hc : w.cell? p = some (.int .i64 op)) :
  Calls Try.prog 66 #[.int .i64 c, .bool is, .pointer (some p)] w fun e w' => e = .returned (.bool (c == op && is)) ∧ w = w' := by
 go_enter Try.func66, Try.ntmps66
 go_wp2
 all_goals go_ret
 all_goals exact ⟨Q27 (by simp_all), rfl⟩
set_option maxHeartbeats 1000000 in
theorem Q5e (op a b : Int) (w : World) :
  Calls Try.prog 51 #[.int .i64 op, .int .i64 a, .int .i64 b] w fun e w' => e = .returned (.bool (Q42 op a b)) ∧ Ext w w' := by
 have hu := Q4g b
 have hua := Q4g a
 have hmf : ∀ (fn : Fn) (first cap : Array Value) (w : World), (Instr.makeFunc fn first cap).run Try.prog w = .ok (.func fn first cap) w := fun _ _ _ _ => rfl
 go_enter Try.func51, Try.ntmps51
 go_wp2_with (go_at_call 66; refine (Qdx _ op _ _ _ (by go_cell)).mono ?_; rintro e w' ⟨rfl, rfl⟩)
 all_goals go_ret
 all_goals refine ⟨Q27 ?_, (Ext.refl _).alloc _⟩
 all_goals (rw [Bool.eq_iff_iff]; simp [Q42]; grind)
end Go.Proofs.Ytalpnmjaafcpoaa
