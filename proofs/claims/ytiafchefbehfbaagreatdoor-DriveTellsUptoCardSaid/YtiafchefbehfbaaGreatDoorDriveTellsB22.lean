/- Laid together from: Tx1. -/
import Derived.Test.YtiafchefbehfbaaGreatDoorDriveTellsB3
import Derived.Test.YtiafchefbehfbaaGreatDoorDriveTellsB17
import Derived.Test.YtiafchefbehfbaaGreatDoorDriveTellsB11
import Derived.Test.YtiafchefbehfbaaGreatDoorProg
import Derived.Laws.BytesArg
import Derived.Laws.Concat

namespace Go.Proofs.YtiafchefbehfbaaGreatDoor
open Go.ChangeShapes Go.WideShapes Go.ChangeAt Go.RowKit
set_option linter.unusedVariables false
set_option linter.unusedSimpArgs false
abbrev str (l:List UInt8):Value:=.string ⟨l.toArray⟩
theorem Q2h (a b:List UInt8):(⟨a.toArray⟩:ByteArray) ++ ⟨b.toArray⟩=⟨(a ++ b).toArray⟩:=by
 apply ByteArray.ext
 rw [ByteArray.data_append]
 simp
theorem Q85 (a b:List UInt8) (ha:a.length≤4000000) (hb:b.length≤4000000) (w:World):(Op.stringOp .add ⟨a.toArray⟩ ⟨b.toArray⟩).run Tryz.prog w=.ok (.string ⟨(a ++ b).toArray⟩) w:=by
 have h:=run_string_add (P:=Tryz.prog) (w:=w) ⟨a.toArray⟩ ⟨b.toArray⟩ (by simp [ByteArray.size];omega) (by simp [ByteArray.size];omega)
 rw [Q2h] at h
 exact h
theorem Qm6 (x:Int):∃ u d q:Nat,x.natAbs=u∧d < 10∧u=10 * q+d∧((0≤x∧x=(u:Int)∧x.tmod 10=(d:Int)∧x.tdiv 10=(q:Int))∨(x < 0∧x = -(u:Int)∧x.tmod 10 = -(d:Int)∧x.tdiv 10 = -(q:Int))):=by
 refine ⟨x.natAbs,x.natAbs % 10,x.natAbs / 10,rfl,Nat.mod_lt _ (by omega),by omega,?_⟩
 by_cases h:0≤x
 ·left
  obtain ⟨k,rfl⟩:∃ k:Nat,x=k:=⟨x.toNat,by omega⟩
  exact ⟨h,by simp,by rw [Int.natAbs_natCast];rfl,by simp⟩
 ·right
  obtain ⟨k,rfl⟩:∃ k:Nat,x = -(k:Int):=⟨(-x).toNat,by omega⟩
  refine ⟨by omega,by simp,?_,?_⟩
  ·rw [Int.neg_tmod,show (-(k:Int)).natAbs=k by simp]
   congr 1
  ·rw [Int.neg_tdiv];simp
end Go.Proofs.YtiafchefbehfbaaGreatDoor
