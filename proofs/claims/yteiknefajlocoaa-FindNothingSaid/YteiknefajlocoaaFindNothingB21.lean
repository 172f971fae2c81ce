/- Laid together from: Num, Ref1, Ref1b. -/
import Derived.Test.YteiknefajlocoaaProg
import Derived.Test.YteiknefajlocoaaFindNothingB5
import Derived.Test.YteiknefajlocoaaFindNothingB7
import Derived.WalkLawsBesides
import Derived.WalkSpells
import Derived.Outline
import Derived.Test.YteiknefajlocoaaFindNothingB12

namespace Go.Proofs.Yteiknefajlocoaa
open Go.ChangeShapes Go.WideShapes Go.ChangeAt Go.RowKit
set_option maxHeartbeats 1000000 in
theorem Qcu (op a b:Int) (w:World) :
  Calls Try.prog 137 #[.int .i64 op,.int .i64 a,.int .i64 b] w fun e w'=>e=.returned (.int .i64 (nop op a b))∧w=w':=by
 have H63:=and63' b
 have hu:=Q8w b
 have hua:=Q8w a
 go_enter Try.func137,Try.ntmps137
 go_wp2
 all_goals first
  | (exfalso;simp_all;done)
  | (go_ret;refine ⟨Q4x ?_,rfl⟩;simp_all [nop,Qle,Qjg,Qjz,Qjy])
theorem Qru (c op:Int) (is:Bool) (p:Addr) (w:World) (hc:w.cell? p=some (.int .i64 op)) :
  Calls Try.prog 134 #[.int .i64 c,.bool is,.pointer (some p)] w fun e w'=>e=.returned (.bool (c == op && is))∧w=w':=by
 go_enter Try.func134,Try.ntmps134
 go_wp2
 all_goals go_ret
 all_goals exact ⟨Q04 (by simp_all),rfl⟩
set_option maxHeartbeats 1000000 in
theorem Qgp (op a b:Int) (w:World) :
  Calls Try.prog 106 #[.int .i64 op,.int .i64 a,.int .i64 b] w fun e w'=>e=.returned (.bool (Q3d op a b))∧Ext w w':=by
 have hu:=Q8w b
 have hua:=Q8w a
 have hmf:∀ (fn:Fn) (first cap:Array Value) (w:World),(Instr.makeFunc fn first cap).run Try.prog w=.ok (.func fn first cap) w:=fun _ _ _ _=>rfl
 go_enter Try.func106,Try.ntmps106
 go_wp2_with (go_at_call 134;refine (Qru _ op _ _ _ (by go_cell)).mono ?_;rintro e w' ⟨rfl,rfl⟩)
 all_goals go_ret
 all_goals refine ⟨Q04 ?_,(Ext.refl _).alloc _⟩
 all_goals (rw [Bool.eq_iff_iff];simp [Q3d];grind)
end Go.Proofs.Yteiknefajlocoaa
