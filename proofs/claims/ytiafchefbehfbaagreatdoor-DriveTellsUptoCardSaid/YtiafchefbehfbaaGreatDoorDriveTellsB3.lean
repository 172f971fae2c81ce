/- Laid together from: TxP. -/
import Derived.Test.YtiafchefbehfbaaGreatDoorDriveTellsB1
import Derived.Lib.ItoaNum

namespace Go.Proofs.YtiafchefbehfbaaGreatDoor
set_option linter.unusedVariables false
set_option linter.unusedSimpArgs false
def opsW:List (List UInt8):=[[97,100,100],[115,117,98],[109,117,108],[97,110,100],[111,114],[120,111,114],[115,104,108],[115,104,114],[100,105,118],[109,111,100]]
def Q4b:List (List UInt8):=[[115,97,109,101],[111,116,104,101,114],[108,101,115,115],[109,111,115,116]]
def Qdn:List (List UInt8):=[[],[115,101,116],[109,111,118,101],[108,111,97,100],[112,117,116],[108,111,97,100,107],[112,117,116,107],[106,117,109,112],[],[104,97,108,116],[112,108,117,115],[109,97,115,107],[102,101,110,99,101]]
def Q3l (op c:Int):List UInt8:=if 20 < op then opsW.getD (op - 21).toNat [] else if op=8 then Q4b.getD (c - 1).toNat [] else Qdn.getD op.toNat []
def Q9k (op:Int):List UInt8 :=
 if 20 < op then [65,66,67] else if op=1∨op=11 then [65,78] else if op=2 then [65,66] else if op=10∨op=8 then [65,66,78] else if op=3∨op=4 then [65,68,66,78] else if op=5∨op=6 then [65,68,78] else if op=7 then [78] else if op=9 then [65] else []
def Q8h (i:LIns) (f:UInt8):List UInt8 :=
 if f=65 then 32 :: 114 :: Lib.itoa i.a else if f=66 then 32 :: 114 :: Lib.itoa i.b else if f=67 then 32 :: 114 :: Lib.itoa i.c else if f=68 then 32 :: 103 :: Lib.itoa i.c else 32 :: Lib.itoa i.n
def Q4h (i:LIns):List UInt8:=Q3l i.op i.c ++ (Q9k i.op).flatMap (Q8h i)
def regT (r:LReg):List UInt8:=[114,101,103,105,111,110,32] ++ Lib.itoa r.log ++ (if r.secret then [32,115,101,99,114,101,116] else [32,112,117,98,108,105,99])
def Q6u (p:Q00):List UInt8:=(p.regs.flatMap fun r=>regT r ++ [10]) ++ p.code.flatMap fun i=>Q4h i ++ [10]
theorem Q9n:∀ (k u:Nat),u < 10 ^ (k+1)→(Lib.decDigits u).length≤k+1
 | 0,u,h=>by
  rw [Lib.decDigits,dif_pos (by simpa using h)]
  simp
 | k+1,u,h=>by
  rw [Lib.decDigits]
  split
  ·simp
  ·have hq:u / 10 < 10 ^ (k+1):=by
    rw [Nat.div_lt_iff_lt_mul (by omega)]
    have:10 ^ (k+1+1)=10 ^ (k+1) * 10:=rfl
    omega
   have:=Q9n k (u / 10) hq
   simp only [List.length_append,List.length_cons,List.length_nil]
   omega
theorem Q5i {n:Int} (h:R64 n):(Lib.itoa n).length≤20:=by
 obtain ⟨h0,h1⟩:=h
 unfold Lib.itoa
 split
 ·have:=Q9n 18 n.natAbs (by simp;omega)
  simp only [List.length_cons]
  omega
 ·have:=Q9n 18 n.toNat (by simp;omega)
  omega
theorem Quv {u:Nat} (h:u < 10):Lib.decDigits u=[UInt8.ofNat (48+u)]:=by rw [Lib.decDigits,dif_pos h]
theorem Quw {u:Nat} (h:¬ u < 10):Lib.decDigits u=Lib.decDigits (u / 10) ++ [UInt8.ofNat (48+u % 10)]:=by rw [Lib.decDigits,dif_neg h]
end Go.Proofs.YtiafchefbehfbaaGreatDoor
