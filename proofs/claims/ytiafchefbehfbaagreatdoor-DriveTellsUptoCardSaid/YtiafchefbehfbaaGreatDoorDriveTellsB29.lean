/- Laid together from: Tx2, Tx3, Tx4. -/
import Derived.Test.YtiafchefbehfbaaGreatDoorDriveTellsB22
import Derived.Test.YtiafchefbehfbaaGreatDoorDriveTellsB23

namespace Go.Proofs.YtiafchefbehfbaaGreatDoor
open Go.ChangeShapes Go.WideShapes Go.ChangeAt Go.RowKit
set_option linter.unusedVariables false
set_option linter.unusedSimpArgs false
def opIs (op:Int):Prop:=(1≤op∧op≤12)∨(21≤op∧op≤30)
theorem Qm0 {p:Q00} {R:Int} {i:LIns} (h:Q04 p R i=true):opIs i.op∧(i.op=8→1≤i.c∧i.c≤4):=by
 unfold Q04 at h
 unfold opIs
 by_cases h12:1≤i.op∧i.op≤12
 ·refine ⟨.inl h12,fun h8=>?_⟩
  rw [h8] at h
  simp [okIn] at h
  omega
 ·refine ⟨.inr ?_,fun h8=>by omega⟩
  simp only at h
  rw [if_neg (by omega),if_neg (by omega),if_neg (by omega),if_neg (by omega),if_neg (by omega),if_neg (by omega),if_neg (by omega),if_neg (by omega),if_neg (by omega),if_neg (by omega)] at h
  simp [okIn] at h
  omega
theorem Q59 (l:List UInt8):(⟨l.toArray⟩:ByteArray).size=l.length:=by simp [ByteArray.size]
theorem Q6v (l:List UInt8) (k:Nat) (x:UInt8) (h:l[k]? = some x) (w:World):(Instr.index 9 (.string ⟨l.toArray⟩) (.int .i64 (k:Int))).run Tryz.prog w=.ok (.int .u8 (x.toNat:Int)) w:=by
 obtain ⟨hk,rfl⟩:=List.getElem?_eq_some_iff.1 h
 rw [run_index_string w 9 ⟨l.toArray⟩ .i64 (k:Int) Tryz.underlying9,dif_pos ⟨by omega,by rw [Q59];omega⟩]
 rfl
def Qas (x:UInt8):Prop:=x=65∨x=66∨x=67∨x=68∨x=78
theorem Qtv (op:Int):(Q9k op).length≤4∧∀ x ∈ Q9k op,Qas x:=by
 unfold Q9k
 repeat' split
 all_goals
  refine ⟨by simp,fun x hx=>?_⟩
  first
   | (refine absurd hx ?_;simp;done)
   | (simp only [List.mem_cons,List.not_mem_nil,or_false] at hx;unfold Qas;rcases hx with h | h | h | h <;> simp [h])
   | (simp only [List.mem_cons,List.not_mem_nil,or_false] at hx;unfold Qas;rcases hx with h | h | h <;> simp [h])
   | (simp only [List.mem_cons,List.not_mem_nil,or_false] at hx;unfold Qas;rcases hx with h | h <;> simp [h])
   | (simp only [List.mem_cons,List.not_mem_nil,or_false] at hx;unfold Qas;simp [hx])
theorem Qfx (op c:Int):(Q3l op c).length≤5:=by
 unfold Q3l
 repeat' split
 ·generalize (op - 21).toNat=k
  match k with
  | 0 | 1 | 2 | 3 | 4 | 5 | 6 | 7 | 8 | 9=>simp [opsW]
  | k+10=>simp [opsW]
 ·generalize (c - 1).toNat=k
  match k with
  | 0 | 1 | 2 | 3=>simp [Q4b]
  | k+4=>simp [Q4b]
 ·generalize op.toNat=k
  match k with
  | 0 | 1 | 2 | 3 | 4 | 5 | 6 | 7 | 8 | 9 | 10 | 11 | 12=>simp [Qdn]
  | k+13=>simp [Qdn]
theorem Qpi {i:LIns} (h:i.fits) (f:UInt8):(Q8h i f).length≤22:=by
 obtain ⟨h1,h2,h3,h4,h5⟩:=h
 have a:=Q5i h2
 have b:=Q5i h3
 have c:=Q5i h4
 have n:=Q5i h5
 unfold Q8h
 repeat' split
 all_goals (simp only [List.length_cons];omega)
theorem Qhu {i:LIns} (h:i.fits):∀ (l:List UInt8),(l.flatMap (Q8h i)).length≤22 * l.length
 | []=>by simp
 | x :: l=>by
  have h1:=Qpi h x
  have h2:=Qhu h l
  rw [List.flatMap_cons,List.length_append,List.length_cons]
  omega
theorem Qrh {i:LIns} (h:i.fits):(Q4h i).length≤93:=by
 have h1:=Qfx i.op i.c
 have h2:=Qhu h (Q9k i.op)
 have h3:=(Qtv i.op).1
 unfold Q4h
 rw [List.length_append]
 omega
end Go.Proofs.YtiafchefbehfbaaGreatDoor
