/- Laid together from: FormP. -/
import Derived.WalkKit

namespace Go.Proofs.YtkkekbnhndfhjaaDoor
open Go.RowKit
structure LReg where
  log : Int
  secret : Bool
  deriving DecidableEq, Inhabited
structure LIns where
  op : Int
  a : Int
  b : Int
  c : Int
  n : Int
  deriving DecidableEq, Inhabited
structure LProg where
  regs : List LReg
  code : List LIns
  deriving DecidableEq, Inhabited
def R64 (x : Int) : Prop := -9223372036854775808 ≤ x ∧ x ≤ 9223372036854775807
def regOk (r : LReg) : Bool := decide (0 ≤ r.log) && decide (r.log ≤ 6)
def regsOk (l : List LReg) : Bool := l.all regOk && decide (l.length ≤ 6)
def wordsOf (r : LReg) : Nat := 2 ^ r.log.toNat
def okIn (below n : Int) : Bool := decide (0 ≤ n) && decide (n < below)
def insOk (p : LProg) (R : Int) (i : LIns) : Bool :=
  let l : Int := p.regs.length
  let m : Int := p.code.length
  if i.op = 1 then okIn R i.a && okIn 1 i.b && okIn 1 i.c
  else if i.op = 2 then okIn R i.a && okIn R i.b && okIn 1 i.n && okIn 1 i.c
  else if i.op = 10 then okIn R i.a && okIn R i.b && okIn 1 i.c
  else if i.op = 3 ∨ i.op = 4 then okIn R i.a && okIn R i.b && okIn l i.c
  else if i.op = 5 ∨ i.op = 6 then okIn R i.a && okIn 1 i.b && okIn l i.c && okIn (wordsOf (p.regs.getD i.c.toNat default)) i.n
  else if i.op = 7 then okIn 1 i.a && okIn 1 i.b && okIn 1 i.c && okIn m i.n
  else if i.op = 8 then okIn R i.a && okIn R i.b && okIn 4 (i.c - 1) && okIn m i.n
  else if i.op = 9 then okIn R i.a && okIn 1 i.n && okIn 1 i.b && okIn 1 i.c
  else if i.op = 11 then okIn R i.a && okIn 1 i.b && okIn 1 i.c && okIn 64 (i.n - 1)
  else if i.op = 12 then okIn 1 i.n && okIn 1 i.a && okIn 1 i.b && okIn 1 i.c
  else okIn R i.a && okIn R i.b && okIn R i.c && okIn 1 i.n && okIn 10 (i.op - 21)
def progOk (p : LProg) (most R : Int) : Bool :=
  regsOk p.regs && decide (1 ≤ p.code.length) && decide ((p.code.length : Int) ≤ most) && p.code.all (insOk p R)
def hardOk (p : LProg) : Bool := progOk p 8000 10
end Go.Proofs.YtkkekbnhndfhjaaDoor
