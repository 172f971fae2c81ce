/- Laid together from: Num, Ref1, Ref1b. -/
import Derived.Test.YtiafchefbehfbaaGreatDoorProg
import Derived.Test.YtiafchefbehfbaaGreatDoorDriveTellsB5
import Derived.Test.YtiafchefbehfbaaGreatDoorDriveTellsB11
import Derived.WalkLawsBesides
import Derived.WalkSpells
import Derived.Outline
import Derived.Test.YtiafchefbehfbaaGreatDoorDriveTellsB15

namespace Go.Proofs.YtiafchefbehfbaaGreatDoor
open Go.ChangeShapes Go.WideShapes Go.ChangeAt Go.RowKit
set_option maxHeartbeats 1000000 in
theorem Qdu (op a b:Int) (w:World) :
  Calls Tryz.prog 87 #[.int .i64 op,.int .i64 a,.int .i64 b] w fun e w'=>e=.returned (.int .i64 (nop op a b))∧w=w':=by
 have H63:=and63' b
 have hu:=Q9v b
 have hua:=Q9v a
 go_enter Tryz.func87,Tryz.ntmps87
 go_wp2
 all_goals first
  | (exfalso;simp_all;done)
  | (go_ret;refine ⟨Q5r ?_,rfl⟩;simp_all [nop,Qng,Ql9,Qlx,Qlw])
theorem Qti (c op:Int) (is:Bool) (p:Addr) (w:World) (hc:w.cell? p=some (.int .i64 op)) :
  Calls Tryz.prog 84 #[.int .i64 c,.bool is,.pointer (some p)] w fun e w'=>e=.returned (.bool (c == op && is))∧w=w':=by
 go_enter Tryz.func84,Tryz.ntmps84
 go_wp2
 all_goals go_ret
 all_goals exact ⟨Q1z (by simp_all),rfl⟩
set_option maxHeartbeats 1000000 in
theorem Qbo (op a b:Int) (w:World) :
  Calls Tryz.prog 52 #[.int .i64 op,.int .i64 a,.int .i64 b] w fun e w'=>e=.returned (.bool (Q99 op a b))∧Ext w w':=by
 have hu:=Q9v b
 have hua:=Q9v a
 have hmf:∀ (fn:Fn) (first cap:Array Value) (w:World),(Instr.makeFunc fn first cap).run Tryz.prog w=.ok (.func fn first cap) w:=fun _ _ _ _=>rfl
 go_enter Tryz.func52,Tryz.ntmps52
 go_wp2_with (go_at_call 84;refine (Qti _ op _ _ _ (by go_cell)).mono ?_;rintro e w' ⟨rfl,rfl⟩)
 all_goals go_ret
 all_goals refine ⟨Q1z ?_,(Ext.refl _).alloc _⟩
 all_goals (rw [Bool.eq_iff_iff];simp [Q99];grind)
end Go.Proofs.YtiafchefbehfbaaGreatDoor
