/- Laid together from: CkE. -/
import Derived.Test.YtiafchefbehfbaaGreatDoorDriveTellsB28
import Derived.Test.YtiafchefbehfbaaGreatDoorProg
import Derived.DeepKeys
import Derived.Laws.StructEq

namespace Go.Proofs.YtiafchefbehfbaaGreatDoor
open Go.ChangeShapes Go.WideShapes Go.ChangeAt Go.RowKit
theorem Qud (a b:LKn) (w:World):(Op.equalIn 9999 92 (knV a) (knV b)).run Tryz.prog w=.ok (decide (a=b)) w:=by
 obtain ⟨x,y⟩:=a
 obtain ⟨u,v⟩:=b
 unfold knV
 go_simp
 by_cases h1:x=u <;> by_cases h2:y=v <;> simp [h1,h2]
set_option maxRecDepth 100000 in
theorem Qhv (u:KSt) (hu:u.length=8) (i:Nat) (hi:i < 8) (w:World):(part 92 (stV u) (i * 2)).run Tryz.prog w=.ok (knV (u.getD i default)) w:=by
 match u,hu with
 | [s0,s1,s2,s3,s4,s5,s6,s7],_ =>
  rcases (show i=0∨i=1∨i=2∨i=3∨i=4∨i=5∨i=6∨i=7 by omega) with rfl | rfl | rfl | rfl | rfl | rfl | rfl | rfl <;> (first | rfl | (go_simp;done))
theorem Qjl {s t:KSt} (hs:s.length=8) (ht:t.length=8) (w:World):∀ is:List Nat,(∀ i ∈ is,i < 8)→(Op.eqItems 9999 92 2 (stV s) (stV t) is).run Tryz.prog w=.ok (is.all fun i=>decide (s.getD i default=t.getD i default)) w
 | [],_=>by simp [Op.eqItems]
 | i :: is,h=>by
  have hi:=h i (by simp)
  have ih:=Qjl hs ht w is (fun j hj=>h j (by simp [hj]))
  rw [Op.eqItems]
  simp only [Sem.run_bind,Qhv s hs i hi,Qhv t ht i hi,Qud,Result.andThen_ok,List.all_cons]
  by_cases e:s.getD i default=t.getD i default
  ·simp only [e,decide_true,Bool.not_true,Bool.false_eq_true,if_false,Bool.true_and]
   exact ih
  ·simp only [e,decide_false,Bool.not_false,if_true,Bool.false_and]
   rfl
theorem Qkj (s t:KSt) (hs:s.length=8) (ht:t.length=8) (w:World):(binOp .eql 94 (.agg (stV s)) (.agg (stV t))).run Tryz.prog w=.ok (.bool (decide (s=t))) w:=by
 obtain ⟨i,hi⟩:=Option.isSome_iff_exists.1 (show (Tryz.prog.info? 92).isSome=true by kernel_rfl)
 have h2:Tryz.prog.cellsOf 92 = 2:=by kernel_rfl
 have h:(Op.equalIn 10000 94 (.agg (stV s)) (.agg (stV t))).run Tryz.prog w=(Op.eqItems 9999 92 (Tryz.prog.cellsOf 92) (stV s) (stV t) (List.range 8)).run Tryz.prog w:=run_equalIn_array (P:=Tryz.prog) w 9999 (stV s) (stV t) Tryz.underlying94 hi
 rw [h2,Qjl hs ht w _ (fun i hi=>by simpa using hi)] at h
 rw [run_eql_struct,h]
 rw [Result.andThen_ok]
 refine congrArg (fun b=>Result.ok (Value.bool b) w) ?_
 rw [Bool.eq_iff_iff,decide_eq_true_iff,List.all_eq_true]
 constructor
 ·intro hh
  apply List.ext_getElem (by rw [hs,ht])
  intro j h1 h2
  have:=hh j (by simp;omega)
  simpa [h1,h2] using this
 ·intro hh
  subst hh
  simp
end Go.Proofs.YtiafchefbehfbaaGreatDoor
