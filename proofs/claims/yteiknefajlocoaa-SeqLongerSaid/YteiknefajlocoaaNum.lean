/- What num.Op and num.Holds return, for any numbers: the walks. -/
import Derived.Test.YteiknefajlocoaaProg
import Derived.Test.YteiknefajlocoaaNumP
import Derived.Test.YteiknefajlocoaaBase
import Derived.WalkLawsBesides
import Derived.WalkSpells
import Derived.Outline
namespace Go.Proofs.Yteiknefajlocoaa
open Go.ChangeShapes Go.WideShapes Go.ChangeAt Go.RowKit

theorem u64_ne {b : Int} (h : (u64 b == 0) = false) : ¬ u64 b = 0 := by simpa using h

set_option maxHeartbeats 1000000 in
theorem numOp_c (op a b : Int) (w : World) :
    Calls Try.prog 137 #[.int .i64 op, .int .i64 a, .int .i64 b] w fun e w' => e = .returned (.int .i64 (nop op a b)) ∧ w = w' := by
  have H63 := and63' b
  have hu := u64_is b
  have hua := u64_is a
  go_enter Try.func137, Try.ntmps137
  go_wp2
  all_goals first
    | (exfalso; simp_all; done)
    | (go_ret; refine ⟨ret_i ?_, rfl⟩; simp_all [nop, sh_min, wrap64_u64, u64_tdiv, u64_tmod])

theorem holdsF_c (c op : Int) (is : Bool) (p : Addr) (w : World) (hc : w.cell? p = some (.int .i64 op)) :
    Calls Try.prog 134 #[.int .i64 c, .bool is, .pointer (some p)] w fun e w' => e = .returned (.bool (c == op && is)) ∧ w = w' := by
  go_enter Try.func134, Try.ntmps134
  go_wp2
  all_goals go_ret
  all_goals exact ⟨ret_b (by simp_all), rfl⟩

set_option maxHeartbeats 1000000 in
theorem numHolds_c (op a b : Int) (w : World) :
    Calls Try.prog 106 #[.int .i64 op, .int .i64 a, .int .i64 b] w fun e w' => e = .returned (.bool (nholds op a b)) ∧ Ext w w' := by
  have hu := u64_is b
  have hua := u64_is a
  have hmf : ∀ (fn : Fn) (first cap : Array Value) (w : World), (Instr.makeFunc fn first cap).run Try.prog w = .ok (.func fn first cap) w := fun _ _ _ _ => rfl
  go_enter Try.func106, Try.ntmps106
  go_wp2_with (go_at_call 134; refine (holdsF_c _ op _ _ _ (by go_cell)).mono ?_; rintro e w' ⟨rfl, rfl⟩)
  all_goals go_ret
  all_goals refine ⟨ret_b ?_, (Ext.refl _).alloc _⟩
  all_goals (rw [Bool.eq_iff_iff]; simp [nholds]; grind)
end Go.Proofs.Yteiknefajlocoaa
