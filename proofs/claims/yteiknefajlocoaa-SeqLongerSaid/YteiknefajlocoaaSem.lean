/- What programs do, as plain functions over lists: step by step, and with steps ahead of time. No program in sight. -/
import Derived.Test.YteiknefajlocoaaFormP
import Derived.Test.YteiknefajlocoaaNumP
namespace Go.Proofs.Yteiknefajlocoaa
open Go.RowKit

structure LSee where
  kind : Int
  a : Int
  b : Int
  deriving DecidableEq, Inhabited

/-- does a number fit a word? -/
def fitsN (n : Int) : Bool := decide (-8192 ≤ n) && decide (n ≤ 8191)
def rg (r : List Int) (i : Int) : Int := r.getD i.toNat 0
def rset (r : List Int) (i v : Int) : List Int := r.set i.toNat v
/-- how many words the regions ahead of one have -/
def baseOf (p : LProg) (r : Nat) : Nat := ((p.regs.take r).map wordsOf).sum
def total (p : LProg) : Nat := (p.regs.map wordsOf).sum
def regOf (p : LProg) (i : LIns) : LReg := p.regs.getD i.c.toNat default
def isPut (i : LIns) : Bool := decide (i.op = 4) || decide (i.op = 6)
def isTake (i : LIns) : Bool := decide (i.op = 3) || decide (i.op = 5)
def putN (i : LIns) : Int := if isPut i then 1 else 0
def idxOf (r : List Int) (i : LIns) : Int := if i.op = 5 ∨ i.op = 6 then i.n else wrap64 (rg r i.b + i.n)
def insideB (p : LProg) (i : LIns) (x : Int) : Bool := decide (0 ≤ x) && decide (x < (wordsOf (regOf p i) : Nat))
/-- an instruction of registers alone -/
def plainR (r : List Int) (i : LIns) : List Int :=
  if i.op = 1 then rset r i.a i.n
  else if i.op = 2 then rset r i.a (rg r i.b)
  else if i.op = 10 then rset r i.a (wrap64 (rg r i.b + i.n))
  else if i.op = 11 then (if rg r i.a < 0 ∨ i.n ≤ rg r i.a then rset r i.a 0 else r)
  else if i.op = 12 then r
  else rset r i.a (nop (i.op - 20) (rg r i.b) (rg r i.c))
def plainS (r : List Int) (i : LIns) : List LSee := if i.op = 29 ∨ i.op = 30 then [⟨3, rg r i.b, rg r i.c⟩] else []

/-- a run: registers, the words of all regions in one row, the place, and what it has shown -/
structure Mach where
  regs : List Int
  words : List Int
  at_ : Nat
  fin : Int
  value : Int
  steps : Nat
  seen : List LSee
  deriving DecidableEq, Inhabited

def start (ws : List Int) : Mach := ⟨List.replicate 10 0, ws, 0, 0, 0, 0, []⟩
def stepM (p : LProg) (i : LIns) (m : Mach) : Mach :=
  let s := m.seen ++ [⟨1, m.at_, 0⟩]
  let k := m.steps + 1
  if i.op = 7 then { m with at_ := i.n.toNat, steps := k, seen := s }
  else if i.op = 8 then { m with at_ := (if nholds i.c (rg m.regs i.a) (rg m.regs i.b) then i.n.toNat else m.at_ + 1), steps := k, seen := s }
  else if i.op = 9 then { m with at_ := m.at_ + 1, steps := k, seen := s, fin := 1, value := rg m.regs i.a }
  else if isPut i || isTake i then
    let x := idxOf m.regs i
    if insideB p i x then
      let n := baseOf p i.c.toNat + x.toNat
      let s' := s ++ [⟨2, n, putN i⟩]
      if isPut i then { m with at_ := m.at_ + 1, steps := k, seen := s', words := m.words.set n (rg m.regs i.a) }
      else { m with at_ := m.at_ + 1, steps := k, seen := s', regs := rset m.regs i.a (m.words.getD n 0) }
    else { m with at_ := m.at_ + 1, steps := k, seen := s, fin := 2 }
  else { m with at_ := m.at_ + 1, steps := k, seen := s ++ plainS m.regs i, regs := plainR m.regs i }
def runM (p : LProg) : Nat → Mach → Mach
  | 0, m => m
  | k + 1, m =>
    if m.fin ≠ 0 then m
    else match p.code[m.at_]? with
      | none => { m with fin := 2 }
      | some i => runM p k (stepM p i m)

/-! with steps ahead of time -/
structure Plc where
  regs : List Int
  words : List Int
  past : List (List Int)
  at_ : Nat
  deriving DecidableEq, Inhabited
structure Spc where
  pl : Plc
  fin : Int
  value : Int
  steps : Nat
  seen : List LSee
  script : List Int
  ahead : Bool
  since : Int
  back : Plc
  deriving DecidableEq, Inhabited
def startS (ws script : List Int) : Spc := ⟨⟨List.replicate 10 0, ws, List.replicate ws.length [], 0⟩, 0, 0, 0, [], script, false, 0, ⟨[], [], [], 0⟩⟩
def Spc.choice (s : Spc) : Int := s.script.headD 0
def Spc.chosen (s : Spc) : Spc := { s with script := s.script.tail }
def Spc.leave (s : Spc) : Spc := if s.ahead then s else { s with ahead := true, since := -1, back := s.pl }
def Spc.returns (s : Spc) : Spc := { s with seen := s.seen ++ [⟨4, 0, 0⟩], ahead := false, pl := s.back }
def Spc.goTo (s : Spc) (k : Nat) : Spc := { s with pl := { s.pl with at_ := k } }
def Spc.put_ (s : Spc) (a v : Int) : Spc := { s with pl := { s.pl with regs := rset s.pl.regs a v } }
def branchS (i : LIns) (s : Spc) : Spc :=
  let h := nholds i.c (rg s.pl.regs i.a) (rg s.pl.regs i.b)
  let right := if h then i.n.toNat else s.pl.at_ + 1
  let wrong := if h then s.pl.at_ + 1 else i.n.toNat
  let s1 := (s.goTo right).chosen
  if s.choice = 0 then s1 else s1.leave.goTo wrong
def takeS (i : LIns) (n : Nat) (s : Spc) : Spc :=
  let l := s.pl.past.getD n []
  let c := s.choice
  let s1 := ((s.goTo (s.pl.at_ + 1)).chosen).put_ i.a (s.pl.words.getD n 0)
  if 0 < c ∧ c ≤ l.length then s1.leave.put_ i.a (l.getD (l.length - c.toNat) 0) else s1
def wordS (p : LProg) (i : LIns) (s : Spc) : Spc :=
  let x := idxOf s.pl.regs i
  if !insideB p i x && !s.ahead then { s with fin := 2 }
  else
    let n := wrap64 (baseOf p i.c.toNat + x)
    let s1 := { s with seen := s.seen ++ [⟨2, n, putN i⟩] }
    if 0 ≤ n ∧ n < s.pl.words.length then
      if isPut i then { s1 with pl := { s1.pl with at_ := s1.pl.at_ + 1, past := s1.pl.past.set n.toNat (s1.pl.past.getD n.toNat [] ++ [s1.pl.words.getD n.toNat 0]), words := s1.pl.words.set n.toNat (rg s1.pl.regs i.a) } }
      else takeS i n.toNat s1
    else
      let s2 := s1.goTo (s1.pl.at_ + 1)
      if isPut i then s2 else s2.put_ i.a 0
/-- an instruction, without the count of steps ahead of time -/
def doS (p : LProg) (i : LIns) (s : Spc) : Spc :=
  if i.op = 7 then s.goTo i.n.toNat
  else if i.op = 8 then branchS i s
  else if i.op = 9 then (if s.ahead then s.goTo (s.pl.at_ + 1) else { s with fin := 1, value := rg s.pl.regs i.a })
  else if i.op = 12 then s.goTo (s.pl.at_ + 1)
  else if isPut i || isTake i then wordS p i s
  else { s with seen := s.seen ++ plainS s.pl.regs i, pl := { s.pl with regs := plainR s.pl.regs i, at_ := s.pl.at_ + 1 } }
def overS (i : LIns) (s : Spc) : Bool := (decide (i.op = 9) && s.ahead) || decide (i.op = 12)
def stepS (p : LProg) (i : LIns) (s : Spc) : Spc :=
  let s0 := { s with steps := s.steps + 1, seen := s.seen ++ [⟨1, s.pl.at_, 0⟩] }
  let s1 := doS p i s0
  if s1.ahead then
    let s2 := { s1 with since := s1.since + 1 }
    if overS i s || decide (s2.since = 12) then s2.returns else s2
  else s1
def upS (p : LProg) (s : Spc) : Spc := if s.ahead ∧ p.code.length ≤ s.pl.at_ then s.returns else s
def runS (p : LProg) : Nat → Spc → Spc
  | 0, s => s
  | k + 1, s =>
    if s.fin ≠ 0 then s
    else match p.code[(upS p s).pl.at_]? with
      | none => { upS p s with fin := 2 }
      | some i => runS p k (stepS p i (upS p s))
def endS (s : Spc) : Spc := if s.ahead then { s with pl := s.back } else s
end Go.Proofs.Yteiknefajlocoaa
