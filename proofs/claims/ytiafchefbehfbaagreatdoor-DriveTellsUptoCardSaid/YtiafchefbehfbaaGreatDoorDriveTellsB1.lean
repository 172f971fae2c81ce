/- Laid together from: FormP. -/
import Derived.WalkKit

namespace Go.Proofs.YtiafchefbehfbaaGreatDoor
open Go.RowKit
structure LReg where
 log:Int
 secret:Bool
 deriving DecidableEq,Inhabited
structure LIns where
 op:Int
 a:Int
 b:Int
 c:Int
 n:Int
 deriving DecidableEq,Inhabited
structure Q00 where
 regs:List LReg
 code:List LIns
 deriving DecidableEq,Inhabited
def R64 (x:Int):Prop := -9223372036854775808≤x∧x≤9223372036854775807
def Q4s (r:LReg):Bool:=decide (0≤r.log) && decide (r.log≤6)
def Q0p (l:List LReg):Bool:=l.all Q4s && decide (l.length≤6)
def Q0t (r:LReg):Nat:=2 ^ r.log.toNat
def okIn (below n:Int):Bool:=decide (0≤n) && decide (n < below)
def Q04 (p:Q00) (R:Int) (i:LIns):Bool :=
 let l:Int:=p.regs.length
 let m:Int:=p.code.length
 if i.op=1 then okIn R i.a && okIn 1 i.b && okIn 1 i.c
 else if i.op=2 then okIn R i.a && okIn R i.b && okIn 1 i.n && okIn 1 i.c
 else if i.op=10 then okIn R i.a && okIn R i.b && okIn 1 i.c
 else if i.op=3∨i.op=4 then okIn R i.a && okIn R i.b && okIn l i.c
 else if i.op=5∨i.op=6 then okIn R i.a && okIn 1 i.b && okIn l i.c && okIn (Q0t (p.regs.getD i.c.toNat default)) i.n
 else if i.op=7 then okIn 1 i.a && okIn 1 i.b && okIn 1 i.c && okIn m i.n
 else if i.op=8 then okIn R i.a && okIn R i.b && okIn 4 (i.c - 1) && okIn m i.n
 else if i.op=9 then okIn R i.a && okIn 1 i.n && okIn 1 i.b && okIn 1 i.c
 else if i.op=11 then okIn R i.a && okIn 1 i.b && okIn 1 i.c && okIn 64 (i.n - 1)
 else if i.op=12 then okIn 1 i.n && okIn 1 i.a && okIn 1 i.b && okIn 1 i.c
 else okIn R i.a && okIn R i.b && okIn R i.c && okIn 1 i.n && okIn 10 (i.op - 21)
def Q6p (p:Q00) (most R:Int):Bool :=
 Q0p p.regs && decide (1≤p.code.length) && decide ((p.code.length:Int)≤most) && p.code.all (Q04 p R)
def Q2p (p:Q00):Bool:=Q6p p 200 8
def Q3f (p:Q00):Bool:=Q6p p 8000 10
def Q51 (p:Q00) (m:List (List Int)):Bool :=
 Q0p p.regs && decide (m.length=p.regs.length) && (List.range p.regs.length).all fun i=>decide ((m.getD i default).length=Q0t (p.regs.getD i default))
end Go.Proofs.YtiafchefbehfbaaGreatDoor
