/- Laid together from: KnownP. -/
import Derived.WalkKit
import Derived.Lib.BitFns

namespace Go.Proofs.YtiafchefbehfbaaGreatDoor
open Go.RowKit
def nrm (b:Int):Int:=if b < 0∨17 < b then 17 else b
theorem Q66 (b:Int):0≤nrm b∧nrm b≤17:=by unfold nrm;split <;> omega
theorem Qqa {b:Int} (h0:0≤b) (h1:b≤17):nrm b=b:=by unfold nrm;rw [if_neg (by omega)]
def kopN (op a b:Int):Int :=
 if op=1 then max a b+(if 0 < min a b then 1 else 0) else if op=3 then (if a=0∨b=0 then 0 else a+b) else if op=4 then min a b
 else if op=5∨op=6 then max a b else if op=8∨op=9∨op=10 then a else 17
def kop (op a b:Int):Int:=min (kopN op a b) 17
theorem Qrw {op:Int} (a b:Int) (h1:¬ op=1) (h3:¬ op=3) (h4:¬ op=4) (h5:¬ op=5) (h6:¬ op=6) (h8:¬ op=8) (h9:¬ op=9) (h10:¬ op=10):kopN op a b=17:=by
 simp [kopN,h1,h3,h4,h5,h6,h8,h9,h10]
def kfit (b n:Int):Bool:=decide (b=17) || (decide (0≤n) && decide (n < 2 ^ b.toNat))
def khas (b n:Int):Bool:=kfit (nrm b) n
def kof (n:Int):Int:=if n < 0∨65536≤n then 17 else (Lib.bitLen n.toNat:Nat)
theorem Q4t (i j:Nat) (h:i≤j):(2:Int) ^ i≤2 ^ j:=by
 have h1:(2:Nat) ^ i≤2 ^ j:=Nat.pow_le_pow_right (by omega) h
 have e1:((2 ^ i:Nat):Int)=(2:Int) ^ i:=by rw [Int.natCast_pow];rfl
 have e2:((2 ^ j:Nat):Int)=(2:Int) ^ j:=by rw [Int.natCast_pow];rfl
 omega
theorem Qvm (f:Nat):∀ x:Nat,x < 2 ^ f→∀ k:Nat,(Lib.bitLenAux f x≤k ↔ x < 2 ^ k):=by
 induction f with
 | zero=>intro x hx k;simp at hx;subst hx;simp [Lib.bitLenAux,Nat.two_pow_pos]
 | succ f ih =>
  intro x hx k
  rw [Lib.bitLenAux]
  split
  ·subst_vars;simp [Nat.two_pow_pos]
  ·rename_i h0
   cases k with
   | zero=>simp;omega
   | succ k =>
    have:=ih (x / 2) (by rw [Nat.pow_succ] at hx;omega) k
    rw [Nat.pow_succ]
    omega
theorem Qvl (x:Nat) (hx:x < 65536) (k:Nat):Lib.bitLen x≤k ↔ x < 2 ^ k :=
 Qvm 64 x (Nat.lt_of_lt_of_le hx (by decide)) k
theorem Qrx (n:Int):0≤kof n∧kof n≤17:=by
 unfold kof
 split
 ·omega
 ·have:=(Qvl n.toNat (by omega) 16).2 (by omega);omega
end Go.Proofs.YtiafchefbehfbaaGreatDoor
