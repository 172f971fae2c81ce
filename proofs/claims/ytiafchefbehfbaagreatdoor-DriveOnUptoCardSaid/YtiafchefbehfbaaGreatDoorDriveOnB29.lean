/- Laid together from: Tx2, Tx3, Tx4. -/
import Derived.Test.YtiafchefbehfbaaGreatDoorDriveOnB22
import Derived.Test.YtiafchefbehfbaaGreatDoorDriveOnB23

namespace Go.Proofs.YtiafchefbehfbaaGreatDoor
open Go.ChangeShapes Go.WideShapes Go.ChangeAt Go.RowKit
set_option linter.unusedVariables false
set_option linter.unusedSimpArgs false
def opIs (op:Int):Prop:=(1≤op∧op≤12)∨(21≤op∧op≤30)
theorem Qk7 {p:Q00} {R:Int} {i:LIns} (h:Q01 p R i=true):opIs i.op∧(i.op=8→1≤i.c∧i.c≤4):=by
 unfold Q01 at h
 unfold opIs
 by_cases h12:1≤i.op∧i.op≤12
 ·refine ⟨.inl h12,fun h8=>?_⟩
  rw [h8] at h
  simp [okIn] at h
  omega
 ·refine ⟨.inr ?_,fun h8=>by omega⟩
  simp only at h
  rw [if_neg (by omega),if_neg (by omega),if_neg (by omega),if_neg (by omega),if_neg (by omega),if_neg (by omega),if_neg (by omega),if_neg (by omega),if_neg (by omega),if_neg (by omega)] at h
  simp [okIn] at h
  omega
theorem Q6g (l:List UInt8):(⟨l.toArray⟩:ByteArray).size=l.length:=by simp [ByteArray.size]
theorem Qkm (l:List UInt8) (k:Nat) (x:UInt8) (h:l[k]? = some x) (w:World):(Instr.index 9 (.string ⟨l.toArray⟩) (.int .i64 (k:Int))).run Tryz.prog w=.ok (.int .u8 (x.toNat:Int)) w:=by
 obtain ⟨hk,rfl⟩:=List.getElem?_eq_some_iff.1 h
 rw [run_index_string w 9 ⟨l.toArray⟩ .i64 (k:Int) Tryz.underlying9,dif_pos ⟨by omega,by rw [Q6g];omega⟩]
 rfl
def Q9v (x:UInt8):Prop:=x=65∨x=66∨x=67∨x=68∨x=78
theorem Qsk (op:Int):(Q8r op).length≤4∧∀ x ∈ Q8r op,Q9v x:=by
 unfold Q8r
 repeat' split
 all_goals
  refine ⟨by simp,fun x hx=>?_⟩
  first
   | (refine absurd hx ?_;simp;done)
   | (simp only [List.mem_cons,List.not_mem_nil,or_false] at hx;unfold Q9v;rcases hx with h | h | h | h <;> simp [h])
   | (simp only [List.mem_cons,List.not_mem_nil,or_false] at hx;unfold Q9v;rcases hx with h | h | h <;> simp [h])
   | (simp only [List.mem_cons,List.not_mem_nil,or_false] at hx;unfold Q9v;rcases hx with h | h <;> simp [h])
   | (simp only [List.mem_cons,List.not_mem_nil,or_false] at hx;unfold Q9v;simp [hx])
theorem Qeu (op c:Int):(Q3c op c).length≤5:=by
 unfold Q3c
 repeat' split
 ·generalize (op - 21).toNat=k
  match k with
  | 0 | 1 | 2 | 3 | 4 | 5 | 6 | 7 | 8 | 9=>simp [opsW]
  | k+10=>simp [opsW]
 ·generalize (c - 1).toNat=k
  match k with
  | 0 | 1 | 2 | 3=>simp [Q43]
  | k+4=>simp [Q43]
 ·generalize op.toNat=k
  match k with
  | 0 | 1 | 2 | 3 | 4 | 5 | 6 | 7 | 8 | 9 | 10 | 11 | 12=>simp [Qcl]
  | k+13=>simp [Qcl]
theorem Qnp {i:LIns} (h:i.fits) (f:UInt8):(Q7u i f).length≤22:=by
 obtain ⟨h1,h2,h3,h4,h5⟩:=h
 have a:=Q5j h2
 have b:=Q5j h3
 have c:=Q5j h4
 have n:=Q5j h5
 unfold Q7u
 repeat' split
 all_goals (simp only [List.length_cons];omega)
theorem Qgp {i:LIns} (h:i.fits):∀ (l:List UInt8),(l.flatMap (Q7u i)).length≤22 * l.length
 | []=>by simp
 | x :: l=>by
  have h1:=Qnp h x
  have h2:=Qgp h l
  rw [List.flatMap_cons,List.length_append,List.length_cons]
  omega
theorem Qq8 {i:LIns} (h:i.fits):(Q49 i).length≤93:=by
 have h1:=Qeu i.op i.c
 have h2:=Qgp h (Q8r i.op)
 have h3:=(Qsk i.op).1
 unfold Q49
 rw [List.length_append]
 omega
end Go.Proofs.YtiafchefbehfbaaGreatDoor
