/- Laid together from: NumP, Sem, SemL, Flat, SpecL, Quiet, SpP. -/
import Derived.WalkKit
import Derived.Laws.BitsAllLaws
import Derived.Laws.BitsLemmas
import Derived.Test.YtiafchefbehfbaaGreatDoorDriveTellsB1

namespace Go.Proofs.YtiafchefbehfbaaGreatDoor
open Go.RowKit
def u64 (n:Int):Int:=n % 18446744073709551616
def sh (b:Int):Nat:=(b % 64).toNat
def nop (op a b:Int):Int :=
 if op=1 then wrap64 (a+b) else if op=2 then wrap64 (a - b) else if op=3 then wrap64 (a * b)
 else if op=4 then bits .and .i64 a b else if op=5 then bits .or .i64 a b else if op=6 then bits .xor .i64 a b
 else if op=7 then wrap64 (u64 a * 2 ^ sh b) else if op=8 then wrap64 (u64 a / 2 ^ sh b)
 else if op=9 then (if u64 b=0 then 0 else wrap64 (u64 a / u64 b))
 else if op=10 then (if u64 b=0 then a else wrap64 (u64 a % u64 b)) else 0
def Q99 (c a b:Int):Bool :=
 (c == 1 && a == b) || (c == 2 && a != b) || (c == 3 && decide (u64 a < u64 b)) || (c == 4 && !decide (u64 a < u64 b))
theorem Q8o (n:Int):IntKind.i64.wrap n=wrap64 n:=IntWalk.i64_left n
theorem Q9v (n:Int):IntKind.u64.wrap n=u64 n:=by rw [IntKind.wrap_u64];rfl
theorem Qg1 (n:Int):0≤u64 n:=by unfold u64;omega
theorem Qnh (b:Int):sh b < 64:=by unfold sh;omega
theorem Qfj (b:Int):bits .and .u64 (IntKind.u64.wrap b) 63=(sh b:Int):=by
 show IntKind.u64.wrap ((BitVec.ofInt 64 (IntKind.u64.wrap b) &&& BitVec.ofInt 64 63).toNat:Int)=_
 rw [BitVec.toNat_and,IntKind.wrap_u64,IntKind.wrap_u64]
 have h63:(BitVec.ofInt 64 63).toNat=2 ^ 6 - 1:=by decide
 rw [h63,Nat.and_two_pow_sub_one_eq_mod,BitVec.toNat_ofInt]
 unfold sh
 omega
theorem and63' (b:Int):bits .and .u64 (u64 b) 63=(sh b:Int):=by rw [← Q9v];exact Qfj b
theorem Qng (b:Int):min (sh b) 64=sh b:=Nat.min_eq_left (Nat.le_of_lt (Qnh b))
theorem Ql9 (x:Int):wrap64 (IntKind.u64.wrap x)=wrap64 x:=by rw [IntKind.wrap_u64];unfold wrap64;omega
theorem Qlx (a b:Int):(u64 a).tdiv (u64 b)=u64 a / u64 b:=Int.tdiv_eq_ediv_of_nonneg (Qg1 a)
theorem Qlw (a b:Int):(u64 a).tmod (u64 b)=u64 a % u64 b:=Int.tmod_eq_emod_of_nonneg (Qg1 a)
structure LSee where
 kind:Int
 a:Int
 b:Int
 deriving DecidableEq,Inhabited
def Q1f (n:Int):Bool:=decide (-8192≤n) && decide (n≤8191)
def rg (r:List Int) (i:Int):Int:=r.getD i.toNat 0
def rset (r:List Int) (i v:Int):List Int:=r.set i.toNat v
def Q0n (p:Q00) (r:Nat):Nat:=((p.regs.take r).map Q0t).sum
def Q2a (p:Q00):Nat:=(p.regs.map Q0t).sum
def Q11 (p:Q00) (i:LIns):LReg:=p.regs.getD i.c.toNat default
def Q0q (i:LIns):Bool:=decide (i.op=4) || decide (i.op=6)
def Q1m (i:LIns):Bool:=decide (i.op=3) || decide (i.op=5)
def putN (i:LIns):Int:=if Q0q i then 1 else 0
def Q1u (r:List Int) (i:LIns):Int:=if i.op=5∨i.op=6 then i.n else wrap64 (rg r i.b+i.n)
def Q3u (p:Q00) (i:LIns) (x:Int):Bool:=decide (0≤x) && decide (x < (Q0t (Q11 p i):Nat))
def Q2w (r:List Int) (i:LIns):List Int :=
 if i.op=1 then rset r i.a i.n
 else if i.op=2 then rset r i.a (rg r i.b)
 else if i.op=10 then rset r i.a (wrap64 (rg r i.b+i.n))
 else if i.op=11 then (if rg r i.a < 0∨i.n≤rg r i.a then rset r i.a 0 else r)
 else if i.op=12 then r
 else rset r i.a (nop (i.op - 20) (rg r i.b) (rg r i.c))
def Q39 (r:List Int) (i:LIns):List LSee:=if i.op=29∨i.op=30 then [⟨3,rg r i.b,rg r i.c⟩] else []
structure Mach where
 regs:List Int
 words:List Int
 at_:Nat
 fin:Int
 value:Int
 steps:Nat
 seen:List LSee
 deriving DecidableEq,Inhabited
def Q0a (ws:List Int):Mach:=⟨List.replicate 10 0,ws,0,0,0,0,[]⟩
def Q0y (p:Q00) (i:LIns) (m:Mach):Mach :=
 let s:=m.seen ++ [⟨1,m.at_,0⟩]
 let k:=m.steps+1
 if i.op=7 then { m with at_:=i.n.toNat,steps:=k,seen:=s }
 else if i.op=8 then { m with at_:=(if Q99 i.c (rg m.regs i.a) (rg m.regs i.b) then i.n.toNat else m.at_+1),steps:=k,seen:=s }
 else if i.op=9 then { m with at_:=m.at_+1,steps:=k,seen:=s,fin:=1,value:=rg m.regs i.a }
 else if Q0q i || Q1m i then
  let x:=Q1u m.regs i
  if Q3u p i x then
   let n:=Q0n p i.c.toNat+x.toNat
   let s':=s ++ [⟨2,n,putN i⟩]
   if Q0q i then { m with at_:=m.at_+1,steps:=k,seen:=s',words:=m.words.set n (rg m.regs i.a) }
   else { m with at_:=m.at_+1,steps:=k,seen:=s',regs:=rset m.regs i.a (m.words.getD n 0) }
  else { m with at_:=m.at_+1,steps:=k,seen:=s,fin:=2 }
 else { m with at_:=m.at_+1,steps:=k,seen:=s ++ Q39 m.regs i,regs:=Q2w m.regs i }
def runM (p:Q00):Nat→Mach→Mach
 | 0,m=>m
 | k+1,m =>
  if m.fin≠0 then m
  else match p.code[m.at_]? with
   | none=>{ m with fin:=2 }
   | some i=>runM p k (Q0y p i m)
structure Plc where
 regs:List Int
 words:List Int
 past:List (List Int)
 at_:Nat
 deriving DecidableEq,Inhabited
structure Spc where
 pl:Plc
 fin:Int
 value:Int
 steps:Nat
 seen:List LSee
 script:List Int
 ahead:Bool
 since:Int
 back:Plc
 deriving DecidableEq,Inhabited
def Q1l (ws script:List Int):Spc:=⟨⟨List.replicate 10 0,ws,List.replicate ws.length [],0⟩,0,0,0,[],script,false,0,⟨[],[],[],0⟩⟩
def Spc.choice (s:Spc):Int:=s.script.headD 0
def Spc.chosen (s:Spc):Spc:={ s with script:=s.script.tail }
def Spc.leave (s:Spc):Spc:=if s.ahead then s else { s with ahead:=true,since := -1,back:=s.pl }
def Spc.returns (s:Spc):Spc:={ s with seen:=s.seen ++ [⟨4,0,0⟩],ahead:=false,pl:=s.back }
def Spc.goTo (s:Spc) (k:Nat):Spc:={ s with pl:={ s.pl with at_:=k } }
def Spc.put_ (s:Spc) (a v:Int):Spc:={ s with pl:={ s.pl with regs:=rset s.pl.regs a v } }
def Q4j (i:LIns) (s:Spc):Spc :=
 let h:=Q99 i.c (rg s.pl.regs i.a) (rg s.pl.regs i.b)
 let right:=if h then i.n.toNat else s.pl.at_+1
 let wrong:=if h then s.pl.at_+1 else i.n.toNat
 let s1:=(s.goTo right).chosen
 if s.choice=0 then s1 else s1.leave.goTo wrong
def Q44 (i:LIns) (n:Nat) (s:Spc):Spc :=
 let l:=s.pl.past.getD n []
 let c:=s.choice
 let s1:=((s.goTo (s.pl.at_+1)).chosen).put_ i.a (s.pl.words.getD n 0)
 if 0 < c∧c≤l.length then s1.leave.put_ i.a (l.getD (l.length - c.toNat) 0) else s1
def Q3h (p:Q00) (i:LIns) (s:Spc):Spc :=
 let x:=Q1u s.pl.regs i
 if !Q3u p i x && !s.ahead then { s with fin:=2 }
 else
  let n:=wrap64 (Q0n p i.c.toNat+x)
  let s1:={ s with seen:=s.seen ++ [⟨2,n,putN i⟩] }
  if 0≤n∧n < s.pl.words.length then
   if Q0q i then { s1 with pl:={ s1.pl with at_:=s1.pl.at_+1,past:=s1.pl.past.set n.toNat (s1.pl.past.getD n.toNat [] ++ [s1.pl.words.getD n.toNat 0]),words:=s1.pl.words.set n.toNat (rg s1.pl.regs i.a) } }
   else Q44 i n.toNat s1
  else
   let s2:=s1.goTo (s1.pl.at_+1)
   if Q0q i then s2 else s2.put_ i.a 0
def doS (p:Q00) (i:LIns) (s:Spc):Spc :=
 if i.op=7 then s.goTo i.n.toNat
 else if i.op=8 then Q4j i s
 else if i.op=9 then (if s.ahead then s.goTo (s.pl.at_+1) else { s with fin:=1,value:=rg s.pl.regs i.a })
 else if i.op=12 then s.goTo (s.pl.at_+1)
 else if Q0q i || Q1m i then Q3h p i s
 else { s with seen:=s.seen ++ Q39 s.pl.regs i,pl:={ s.pl with regs:=Q2w s.pl.regs i,at_:=s.pl.at_+1 } }
def Q47 (i:LIns) (s:Spc):Bool:=(decide (i.op=9) && s.ahead) || decide (i.op=12)
def Q2i (p:Q00) (i:LIns) (s:Spc):Spc :=
 let s0:={ s with steps:=s.steps+1,seen:=s.seen ++ [⟨1,s.pl.at_,0⟩] }
 let s1:=doS p i s0
 if s1.ahead then
  let s2:={ s1 with since:=s1.since+1 }
  if Q47 i s || decide (s2.since=12) then s2.returns else s2
 else s1
def upS (p:Q00) (s:Spc):Spc:=if s.ahead∧p.code.length≤s.pl.at_ then s.returns else s
def runS (p:Q00):Nat→Spc→Spc
 | 0,s=>s
 | k+1,s =>
  if s.fin≠0 then s
  else match p.code[(upS p s).pl.at_]? with
   | none=>{ upS p s with fin:=2 }
   | some i=>runS p k (Q2i p i (upS p s))
def endS (s:Spc):Spc:=if s.ahead then { s with pl:=s.back } else s
theorem Qo0 {p:Q00} {m:Mach} (h:m.fin≠0) (k:Nat):runM p k m=m:=by
 cases k with
 | zero=>rfl
 | succ k=>rw [runM,if_pos h]
theorem Q9y (p:Q00) (i:LIns) (m:Mach):(Q0y p i m).steps=m.steps+1:=by
 simp only [Q0y]
 repeat' split
 all_goals rfl
theorem Qd9 (p:Q00):∀ (k:Nat) (m:Mach),m.steps≤(runM p k m).steps∧(runM p k m).steps≤m.steps+k∧((runM p k m).fin=0→(runM p k m).steps=m.steps+k)
 | 0,m=>by simp [runM]
 | k+1,m=>by
  rw [runM]
  by_cases h:m.fin≠0
  ·rw [if_pos h]
   exact ⟨by omega,by omega,fun h0=>absurd h0 h⟩
  ·rw [if_neg h]
   cases hc:p.code[m.at_]? with
   | none=>exact ⟨by simp,by simp,fun h0=>by simp at h0⟩
   | some i =>
    have:=Qd9 p k (Q0y p i m)
    rw [Q9y] at this
    dsimp only
    refine ⟨by omega,by omega,fun h0=>?_⟩
    have:=this.2.2 h0
    omega
theorem Qg7 (l:List Nat):∀ k:Nat,(l.take k).sum≤l.sum:=by
 induction l with
 | nil=>intro k;simp
 | cons a l ih =>
  intro k
  cases k with
  | zero=>simp
  | succ k=>have:=ih k;simp;omega
theorem Qg6 (l:List Nat):∀ k:Nat,k < l.length→(l.take (k+1)).sum=(l.take k).sum+l.getD k 0:=by
 induction l with
 | nil=>intro k hk;simp at hk
 | cons a l ih =>
  intro k hk
  cases k with
  | zero=>simp
  | succ k =>
   have:=ih k (by simpa using hk)
   simp only [List.take_succ_cons,List.sum_cons,List.getD_cons_succ]
   omega
theorem Qch (p:Q00) (r:Nat) (hr:r < p.regs.length):Q0n p r+Q0t (p.regs.getD r default)≤Q2a p:=by
 have h1:=Qg6 (p.regs.map Q0t) r (by simpa using hr)
 have h2:=Qg7 (p.regs.map Q0t) (r+1)
 unfold Q0n Q2a
 rw [← List.map_take] at h1
 have:(List.map Q0t p.regs).getD r 0=Q0t (p.regs.getD r default):=by simp [hr]
 rw [this,List.map_take] at h1
 rw [List.map_take]
 omega
theorem Qme (l:List Nat) (n:Nat) (h:∀ x ∈ l,x≤n):l.sum≤l.length * n:=by
 induction l with
 | nil=>simp
 | cons a l ih =>
  have h1:=h a (by simp)
  have h2:=ih fun x hx=>h x (by simp [hx])
  simp only [List.sum_cons,List.length_cons,Nat.succ_mul]
  omega
theorem Q6s (r:LReg) (h:r.log≤6):Q0t r≤64:=by
 unfold Q0t
 exact Nat.le_trans (Nat.pow_le_pow_right (by omega) (show r.log.toNat≤6 by omega)) (by decide)
theorem Qfv (r:LReg):0 < Q0t r:=Nat.two_pow_pos _
theorem Q6o {l:List LReg} (h:Q0p l=true):∀ r ∈ l,0≤r.log∧r.log≤6:=by
 intro r hr
 simp only [Q0p,Bool.and_eq_true,List.all_eq_true] at h
 have:=h.1 r hr
 simpa [Q4s] using this
theorem Q4g {l:List LReg} (h:Q0p l=true):l.length≤6:=by
 simp only [Q0p,Bool.and_eq_true,decide_eq_true_eq] at h
 exact h.2
theorem Q9w {p:Q00} (h:Q0p p.regs=true):Q2a p≤384:=by
 have h1:=Qme (p.regs.map Q0t) 64 fun x hx=>by
  simp only [List.mem_map] at hx
  obtain ⟨r,hr,rfl⟩:=hx
  exact Q6s r (Q6o h r hr).2
 have h2:=Q4g h
 unfold Q2a
 simp only [List.length_map] at h1
 omega
theorem Qvp (p:Q00) (r:Nat):Q0n p r≤Q2a p:=by
 have:=Qg7 (p.regs.map Q0t) r
 rw [← List.map_take] at this
 exact this
theorem Q5m {p:Q00} (h:Q3f p=true):Q0p p.regs=true∧1≤p.code.length∧p.code.length≤8000∧∀ i ∈ p.code,Q04 p 10 i=true:=by
 simp only [Q3f,Q6p,Bool.and_eq_true,decide_eq_true_eq,List.all_eq_true] at h
 exact ⟨h.1.1.1,h.1.1.2,by have:=h.1.2;omega,h.2⟩
theorem Q5g {p:Q00} (h:Q2p p=true):Q0p p.regs=true∧1≤p.code.length∧p.code.length≤200∧∀ i ∈ p.code,Q04 p 8 i=true:=by
 simp only [Q2p,Q6p,Bool.and_eq_true,decide_eq_true_eq,List.all_eq_true] at h
 exact ⟨h.1.1.1,h.1.1.2,by have:=h.1.2;omega,h.2⟩
theorem okIn_mono {a b n:Int} (h:a≤b) (k:okIn a n=true):okIn b n=true:=by
 simp only [okIn,Bool.and_eq_true,decide_eq_true_eq] at *
 omega
theorem Qt0 {p:Q00} {R S:Int} (h:R≤S) {i:LIns} (k:Q04 p R i=true):Q04 p S i=true:=by
 have f:=fun n=>@okIn_mono R S n h
 simp only [Q04] at *
 repeat' (split at k)
 all_goals simp_all
theorem Q5s {p:Q00} {R:Int} {i:LIns} (k:Q04 p R i=true) (hw:(Q0q i || Q1m i)=true):0≤i.c∧i.c.toNat < p.regs.length:=by
 simp only [Q0q,Q1m,Bool.or_eq_true,decide_eq_true_eq] at hw
 have hop:i.op=3∨i.op=4∨i.op=5∨i.op=6:=by omega
 simp only [Q04] at k
 rcases hop with h | h | h | h <;> simp [h,okIn] at k <;> omega
section
variable (s : Spc)
@[simp] theorem Qwd:s.leave.steps=s.steps:=by unfold Spc.leave;split <;> rfl
@[simp] theorem Qj5:s.leave.fin=s.fin:=by unfold Spc.leave;split <;> rfl
@[simp] theorem Qwc:s.leave.value=s.value:=by unfold Spc.leave;split <;> rfl
@[simp] theorem Qj4:s.leave.seen=s.seen:=by unfold Spc.leave;split <;> rfl
@[simp] theorem Qwf:s.leave.script=s.script:=by unfold Spc.leave;split <;> rfl
@[simp] theorem Qwg:s.leave.pl=s.pl:=by unfold Spc.leave;split <;> rfl
@[simp] theorem Qwi:s.leave.ahead=true:=by unfold Spc.leave;split <;> simp_all
@[simp] theorem Qwh:s.leave.back=if s.ahead then s.back else s.pl:=by unfold Spc.leave;split <;> rfl
@[simp] theorem Qwe:s.leave.since=if s.ahead then s.since else -1:=by unfold Spc.leave;split <;> rfl
end
theorem Qvb (i:LIns) (s:Spc):(Q4j i s).steps=s.steps:=by
 simp only [Q4j]
 split <;> simp [Spc.goTo,Spc.chosen]
theorem Qmc (i:LIns) (n:Nat) (s:Spc):(Q44 i n s).steps=s.steps:=by
 simp only [Q44]
 split <;> simp [Spc.goTo,Spc.chosen,Spc.put_]
theorem Qlp (p:Q00) (i:LIns) (s:Spc):(Q3h p i s).steps=s.steps:=by
 simp only [Q3h]
 repeat' split
 all_goals simp [Qmc,Spc.goTo,Spc.put_]
theorem Qkp (p:Q00) (i:LIns) (s:Spc):(doS p i s).steps=s.steps:=by
 simp only [doS]
 repeat' split
 all_goals simp [Qlp,Qvb,Spc.goTo]
theorem Qb3 (p:Q00) (i:LIns) (s:Spc):(Q2i p i s).steps=s.steps+1:=by
 simp only [Q2i,Spc.returns]
 repeat' split
 all_goals simp [Qkp]
theorem Qg0 (p:Q00) (s:Spc):(upS p s).steps=s.steps∧(upS p s).fin=s.fin∧(upS p s).value=s.value∧(upS p s).script=s.script:=by
 unfold upS
 split <;> simp [Spc.returns]
end Go.Proofs.YtiafchefbehfbaaGreatDoor

namespace Go.Proofs.YtiafchefbehfbaaGreatDoor
open Go.RowKit
set_option linter.unusedSimpArgs false
set_option linter.unusedVariables false
def Q3n (p:Q00) (ws:List Int):List (List Int):=(List.range p.regs.length).map fun k=>(ws.drop (Q0n p k)).take (Q0t (p.regs.getD k default))
theorem Qcx (p:Q00) (ws:List Int):(Q3n p ws).length=p.regs.length:=by simp [Q3n]
theorem Qgf {p:Q00} (ws:List Int) {k:Nat} (hk:k < p.regs.length):(Q3n p ws).getD k default=(ws.drop (Q0n p k)).take (Q0t (p.regs.getD k default)):=by
 simp [Q3n,hk]
theorem Qvn (p:Q00):Q0n p 0=0:=by simp [Q0n]
theorem Qvo (p:Q00) {k:Nat} (hk:k < p.regs.length):Q0n p (k+1)=Q0n p k+Q0t (p.regs.getD k default):=by
 unfold Q0n
 rw [List.map_take,List.map_take,Qg6 _ k (by simpa using hk)]
 simp [hk]
theorem Qvq (p:Q00) {k:Nat} (hk:p.regs.length≤k):Q0n p k=Q2a p:=by
 unfold Q0n Q2a
 rw [List.take_of_length_le hk]
theorem Qmy {p:Q00} {ws:List Int} (hl:ws.length=Q2a p) {k:Nat} (hk:k < p.regs.length):((Q3n p ws).getD k default).length=Q0t (p.regs.getD k default):=by
 rw [Qgf ws hk,List.length_take,List.length_drop]
 have:=Qch p k hk
 omega
theorem Qey {p:Q00} {m:List (List Int)} (h:Q51 p m=true):m.length=p.regs.length∧∀ k,k < p.regs.length→(m.getD k default).length=Q0t (p.regs.getD k default):=by
 simp only [Q51,Bool.and_eq_true,decide_eq_true_eq,List.all_eq_true,List.mem_range] at h
 exact ⟨h.1.2,h.2⟩
theorem Qk9 {p:Q00} {m:List (List Int)} (h:Q51 p m=true):∀ k,k≤p.regs.length→(m.take k).flatten.length=Q0n p k:=by
 obtain ⟨h1,h2⟩:=Qey h
 intro k
 induction k with
 | zero=>intro _;simp [Qvn]
 | succ k ih =>
  intro hk
  rw [List.take_succ_eq_append_getElem (by omega),List.flatten_append,List.length_append,ih (by omega),Qvo p (by omega),← h2 k (by omega)]
  simp [show k < m.length by omega]
theorem Qc5 {p:Q00} {m:List (List Int)} (h:Q51 p m=true):m.flatten.length=Q2a p:=by
 have:=Qk9 h p.regs.length (Nat.le_refl _)
 rw [Qvq p (Nat.le_refl _),List.take_of_length_le (by have:=(Qey h).1;omega)] at this
 exact this
theorem Qli (p:Q00) (ws:List Int) (P:Int→Prop) (h:∀ x ∈ ws,P x):∀ l ∈ Q3n p ws,∀ x ∈ l,P x:=by
 intro l hl x hx
 simp only [Q3n,List.mem_map,List.mem_range] at hl
 obtain ⟨k,_,rfl⟩:=hl
 exact h x (List.mem_of_mem_drop (List.mem_of_mem_take hx))
section
variable {p : Q00} {C : Int → Prop} {IN IA : Plc → Plc → Prop} {End : List Int → List Int → Prop} {s t : Spc}
end
end Go.Proofs.YtiafchefbehfbaaGreatDoor

namespace Go.Proofs.YtiafchefbehfbaaGreatDoor
set_option linter.unusedVariables false
set_option linter.unusedSimpArgs false
def Fin3 (x:Int):Prop:=x=0∨x=1∨x=2
theorem Qmn (p:Q00) (i:LIns) (m:Mach) (h:Fin3 m.fin):Fin3 (Q0y p i m).fin:=by
 unfold Q0y
 dsimp only
 repeat' split
 all_goals first | exact h | exact .inr (.inl rfl) | exact .inr (.inr rfl)
theorem Qgv (p:Q00):∀ (k:Nat) (m:Mach),Fin3 m.fin→Fin3 (runM p k m).fin
 | 0,m,h=>h
 | k+1,m,h=>by
  rw [runM]
  split
  ·exact h
  ·split
   ·exact .inr (.inr rfl)
   ·exact Qgv p k _ (Qmn p _ m h)
theorem Quk (p:Q00) (i:LIns) (s:Spc) (h:Fin3 s.fin):Fin3 (doS p i s).fin:=by
 unfold doS
 split
 ·exact h
 split
 ·unfold Q4j
  dsimp only
  split
  ·exact h
  ·simp only [Spc.goTo,Qj5,Spc.chosen];exact h
 split
 ·split
  ·exact h
  ·exact .inr (.inl rfl)
 split
 ·exact h
 split
 ·unfold Q3h
  dsimp only
  split
  ·exact .inr (.inr rfl)
  ·split
   ·split
    ·exact h
    ·unfold Q44
     dsimp only
     split
     ·simp only [Spc.put_,Qj5,Spc.chosen,Spc.goTo];exact h
     ·exact h
   ·split
    ·exact h
    ·exact h
 ·exact h
theorem Qml (p:Q00) (i:LIns) (s:Spc) (h:Fin3 s.fin):Fin3 (Q2i p i s).fin:=by
 have h1:=Quk p i { s with steps:=s.steps+1,seen:=s.seen ++ [⟨1,s.pl.at_,0⟩] } h
 unfold Q2i
 dsimp only
 split
 ·split
  ·exact h1
  ·exact h1
 ·exact h1
theorem Qlv (p:Q00) (s:Spc):(upS p s).fin=s.fin:=by unfold upS;split <;> rfl
theorem Qgu (p:Q00):∀ (k:Nat) (s:Spc),Fin3 s.fin→Fin3 (runS p k s).fin
 | 0,s,h=>h
 | k+1,s,h=>by
  rw [runS]
  split
  ·exact h
  ·split
   ·exact .inr (.inr rfl)
   ·exact Qgu p k _ (Qml p _ _ (by rw [Qlv];exact h))
theorem Qd7 (p:Q00):∀ (k:Nat) (s:Spc),(runS p k s).steps≤s.steps+k
 | 0,s=>Nat.le_refl _
 | k+1,s=>by
  rw [runS]
  by_cases hf:s.fin≠0
  ·rw [if_pos hf]
   omega
  ·rw [if_neg hf]
   cases hc:p.code[(upS p s).pl.at_]? with
   | none =>
    show (upS p s).steps≤_
    rw [(Qg0 p s).1]
    omega
   | some i =>
    have h:=Qd7 p k (Q2i p i (upS p s))
    rw [Qb3,(Qg0 p s).1] at h
    show (runS p k (Q2i p i (upS p s))).steps≤_
    omega
theorem Qkl (s:Spc):(endS s).seen=s.seen∧(endS s).fin=s.fin∧(endS s).value=s.value∧(endS s).steps=s.steps:=by
 unfold endS
 split <;> exact ⟨rfl,rfl,rfl,rfl⟩
end Go.Proofs.YtiafchefbehfbaaGreatDoor
