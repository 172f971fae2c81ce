/- Laid together from: NumP, Sem, SemL, SpecL, Quiet, Flat, SpP, FdP. -/
import Derived.WalkKit
import Derived.Laws.BitsAllLaws
import Derived.Laws.BitsLemmas
import Derived.Test.YteiknefajlocoaaFindNothingB1

namespace Go.Proofs.Yteiknefajlocoaa
open Go.RowKit
def u64 (n:Int):Int:=n % 18446744073709551616
def sh (b:Int):Nat:=(b % 64).toNat
def nop (op a b:Int):Int :=
 if op=1 then wrap64 (a+b) else if op=2 then wrap64 (a - b) else if op=3 then wrap64 (a * b)
 else if op=4 then bits .and .i64 a b else if op=5 then bits .or .i64 a b else if op=6 then bits .xor .i64 a b
 else if op=7 then wrap64 (u64 a * 2 ^ sh b) else if op=8 then wrap64 (u64 a / 2 ^ sh b)
 else if op=9 then (if u64 b=0 then 0 else wrap64 (u64 a / u64 b))
 else if op=10 then (if u64 b=0 then a else wrap64 (u64 a % u64 b)) else 0
def Q3d (c a b:Int):Bool :=
 (c == 1 && a == b) || (c == 2 && a != b) || (c == 3 && decide (u64 a < u64 b)) || (c == 4 && !decide (u64 a < u64 b))
theorem Q9m (n:Int):IntKind.i64.wrap n=wrap64 n:=IntWalk.i64_left n
theorem Q8w (n:Int):IntKind.u64.wrap n=u64 n:=by rw [IntKind.wrap_u64];rfl
theorem Qbp (n:Int):0≤u64 n:=by unfold u64;omega
theorem Qlf (b:Int):sh b < 64:=by unfold sh;omega
theorem Qec (b:Int):bits .and .u64 (IntKind.u64.wrap b) 63=(sh b:Int):=by
 show IntKind.u64.wrap ((BitVec.ofInt 64 (IntKind.u64.wrap b) &&& BitVec.ofInt 64 63).toNat:Int)=_
 rw [BitVec.toNat_and,IntKind.wrap_u64,IntKind.wrap_u64]
 have h63:(BitVec.ofInt 64 63).toNat=2 ^ 6 - 1:=by decide
 rw [h63,Nat.and_two_pow_sub_one_eq_mod,BitVec.toNat_ofInt]
 unfold sh
 omega
theorem and63' (b:Int):bits .and .u64 (u64 b) 63=(sh b:Int):=by rw [← Q8w];exact Qec b
theorem Qle (b:Int):min (sh b) 64=sh b:=Nat.min_eq_left (Nat.le_of_lt (Qlf b))
theorem Qjg (x:Int):wrap64 (IntKind.u64.wrap x)=wrap64 x:=by rw [IntKind.wrap_u64];unfold wrap64;omega
theorem Qjz (a b:Int):(u64 a).tdiv (u64 b)=u64 a / u64 b:=Int.tdiv_eq_ediv_of_nonneg (Qbp a)
theorem Qjy (a b:Int):(u64 a).tmod (u64 b)=u64 a % u64 b:=Int.tmod_eq_emod_of_nonneg (Qbp a)
structure LSee where
 kind:Int
 a:Int
 b:Int
 deriving DecidableEq,Inhabited
def rg (r:List Int) (i:Int):Int:=r.getD i.toNat 0
def rset (r:List Int) (i v:Int):List Int:=r.set i.toNat v
def Q13 (p:Q00) (r:Nat):Nat:=((p.regs.take r).map Q0e).sum
def Q14 (p:Q00):Nat:=(p.regs.map Q0e).sum
def Q0c (p:Q00) (i:LIns):LReg:=p.regs.getD i.c.toNat default
def Q0s (i:LIns):Bool:=decide (i.op=4) || decide (i.op=6)
def Q0m (i:LIns):Bool:=decide (i.op=3) || decide (i.op=5)
def putN (i:LIns):Int:=if Q0s i then 1 else 0
def Q1a (r:List Int) (i:LIns):Int:=if i.op=5∨i.op=6 then i.n else wrap64 (rg r i.b+i.n)
def Q2v (p:Q00) (i:LIns) (x:Int):Bool:=decide (0≤x) && decide (x < (Q0e (Q0c p i):Nat))
def Q1i (r:List Int) (i:LIns):List Int :=
 if i.op=1 then rset r i.a i.n
 else if i.op=2 then rset r i.a (rg r i.b)
 else if i.op=10 then rset r i.a (wrap64 (rg r i.b+i.n))
 else if i.op=11 then (if rg r i.a < 0∨i.n≤rg r i.a then rset r i.a 0 else r)
 else if i.op=12 then r
 else rset r i.a (nop (i.op - 20) (rg r i.b) (rg r i.c))
def Q3b (r:List Int) (i:LIns):List LSee:=if i.op=29∨i.op=30 then [⟨3,rg r i.b,rg r i.c⟩] else []
structure Mach where
 regs:List Int
 words:List Int
 at_:Nat
 fin:Int
 value:Int
 steps:Nat
 seen:List LSee
 deriving DecidableEq,Inhabited
def Q05 (ws:List Int):Mach:=⟨List.replicate 10 0,ws,0,0,0,0,[]⟩
def Qey (p:Q00) (i:LIns) (m:Mach):Mach :=
 let s:=m.seen ++ [⟨1,m.at_,0⟩]
 let k:=m.steps+1
 if i.op=7 then { m with at_:=i.n.toNat,steps:=k,seen:=s }
 else if i.op=8 then { m with at_:=(if Q3d i.c (rg m.regs i.a) (rg m.regs i.b) then i.n.toNat else m.at_+1),steps:=k,seen:=s }
 else if i.op=9 then { m with at_:=m.at_+1,steps:=k,seen:=s,fin:=1,value:=rg m.regs i.a }
 else if Q0s i || Q0m i then
  let x:=Q1a m.regs i
  if Q2v p i x then
   let n:=Q13 p i.c.toNat+x.toNat
   let s':=s ++ [⟨2,n,putN i⟩]
   if Q0s i then { m with at_:=m.at_+1,steps:=k,seen:=s',words:=m.words.set n (rg m.regs i.a) }
   else { m with at_:=m.at_+1,steps:=k,seen:=s',regs:=rset m.regs i.a (m.words.getD n 0) }
  else { m with at_:=m.at_+1,steps:=k,seen:=s,fin:=2 }
 else { m with at_:=m.at_+1,steps:=k,seen:=s ++ Q3b m.regs i,regs:=Q1i m.regs i }
structure Plc where
 regs:List Int
 words:List Int
 past:List (List Int)
 at_:Nat
 deriving DecidableEq,Inhabited
structure Spc where
 pl:Plc
 fin:Int
 value:Int
 steps:Nat
 seen:List LSee
 script:List Int
 ahead:Bool
 since:Int
 back:Plc
 deriving DecidableEq,Inhabited
def Q0x (ws script:List Int):Spc:=⟨⟨List.replicate 10 0,ws,List.replicate ws.length [],0⟩,0,0,0,[],script,false,0,⟨[],[],[],0⟩⟩
def Spc.choice (s:Spc):Int:=s.script.headD 0
def Spc.chosen (s:Spc):Spc:={ s with script:=s.script.tail }
def Spc.leave (s:Spc):Spc:=if s.ahead then s else { s with ahead:=true,since := -1,back:=s.pl }
def Spc.returns (s:Spc):Spc:={ s with seen:=s.seen ++ [⟨4,0,0⟩],ahead:=false,pl:=s.back }
def Spc.goTo (s:Spc) (k:Nat):Spc:={ s with pl:={ s.pl with at_:=k } }
def Spc.put_ (s:Spc) (a v:Int):Spc:={ s with pl:={ s.pl with regs:=rset s.pl.regs a v } }
def Q4u (i:LIns) (s:Spc):Spc :=
 let h:=Q3d i.c (rg s.pl.regs i.a) (rg s.pl.regs i.b)
 let right:=if h then i.n.toNat else s.pl.at_+1
 let wrong:=if h then s.pl.at_+1 else i.n.toNat
 let s1:=(s.goTo right).chosen
 if s.choice=0 then s1 else s1.leave.goTo wrong
def Q44 (i:LIns) (n:Nat) (s:Spc):Spc :=
 let l:=s.pl.past.getD n []
 let c:=s.choice
 let s1:=((s.goTo (s.pl.at_+1)).chosen).put_ i.a (s.pl.words.getD n 0)
 if 0 < c∧c≤l.length then s1.leave.put_ i.a (l.getD (l.length - c.toNat) 0) else s1
def Q3h (p:Q00) (i:LIns) (s:Spc):Spc :=
 let x:=Q1a s.pl.regs i
 if !Q2v p i x && !s.ahead then { s with fin:=2 }
 else
  let n:=wrap64 (Q13 p i.c.toNat+x)
  let s1:={ s with seen:=s.seen ++ [⟨2,n,putN i⟩] }
  if 0≤n∧n < s.pl.words.length then
   if Q0s i then { s1 with pl:={ s1.pl with at_:=s1.pl.at_+1,past:=s1.pl.past.set n.toNat (s1.pl.past.getD n.toNat [] ++ [s1.pl.words.getD n.toNat 0]),words:=s1.pl.words.set n.toNat (rg s1.pl.regs i.a) } }
   else Q44 i n.toNat s1
  else
   let s2:=s1.goTo (s1.pl.at_+1)
   if Q0s i then s2 else s2.put_ i.a 0
def doS (p:Q00) (i:LIns) (s:Spc):Spc :=
 if i.op=7 then s.goTo i.n.toNat
 else if i.op=8 then Q4u i s
 else if i.op=9 then (if s.ahead then s.goTo (s.pl.at_+1) else { s with fin:=1,value:=rg s.pl.regs i.a })
 else if i.op=12 then s.goTo (s.pl.at_+1)
 else if Q0s i || Q0m i then Q3h p i s
 else { s with seen:=s.seen ++ Q3b s.pl.regs i,pl:={ s.pl with regs:=Q1i s.pl.regs i,at_:=s.pl.at_+1 } }
def Q31 (i:LIns) (s:Spc):Bool:=(decide (i.op=9) && s.ahead) || decide (i.op=12)
def Q34 (p:Q00) (i:LIns) (s:Spc):Spc :=
 let s0:={ s with steps:=s.steps+1,seen:=s.seen ++ [⟨1,s.pl.at_,0⟩] }
 let s1:=doS p i s0
 if s1.ahead then
  let s2:={ s1 with since:=s1.since+1 }
  if Q31 i s || decide (s2.since=12) then s2.returns else s2
 else s1
def upS (p:Q00) (s:Spc):Spc:=if s.ahead∧p.code.length≤s.pl.at_ then s.returns else s
def runS (p:Q00):Nat→Spc→Spc
 | 0,s=>s
 | k+1,s =>
  if s.fin≠0 then s
  else match p.code[(upS p s).pl.at_]? with
   | none=>{ upS p s with fin:=2 }
   | some i=>runS p k (Q34 p i (upS p s))
def endS (s:Spc):Spc:=if s.ahead then { s with pl:=s.back } else s
theorem Qew (l:List Nat):∀ k:Nat,(l.take k).sum≤l.sum:=by
 induction l with
 | nil=>intro k;simp
 | cons a l ih =>
  intro k
  cases k with
  | zero=>simp
  | succ k=>have:=ih k;simp;omega
theorem Qev (l:List Nat):∀ k:Nat,k < l.length→(l.take (k+1)).sum=(l.take k).sum+l.getD k 0:=by
 induction l with
 | nil=>intro k hk;simp at hk
 | cons a l ih =>
  intro k hk
  cases k with
  | zero=>simp
  | succ k =>
   have:=ih k (by simpa using hk)
   simp only [List.take_succ_cons,List.sum_cons,List.getD_cons_succ]
   omega
theorem Qbe (p:Q00) (r:Nat) (hr:r < p.regs.length):Q13 p r+Q0e (p.regs.getD r default)≤Q14 p:=by
 have h1:=Qev (p.regs.map Q0e) r (by simpa using hr)
 have h2:=Qew (p.regs.map Q0e) (r+1)
 unfold Q13 Q14
 rw [← List.map_take] at h1
 have:(List.map Q0e p.regs).getD r 0=Q0e (p.regs.getD r default):=by simp [hr]
 rw [this,List.map_take] at h1
 rw [List.map_take]
 omega
theorem Qkg (l:List Nat) (n:Nat) (h:∀ x ∈ l,x≤n):l.sum≤l.length * n:=by
 induction l with
 | nil=>simp
 | cons a l ih =>
  have h1:=h a (by simp)
  have h2:=ih fun x hx=>h x (by simp [hx])
  simp only [List.sum_cons,List.length_cons,Nat.succ_mul]
  omega
theorem Q6u (r:LReg) (h:r.log≤6):Q0e r≤64:=by
 unfold Q0e
 exact Nat.le_trans (Nat.pow_le_pow_right (by omega) (show r.log.toNat≤6 by omega)) (by decide)
theorem Qem (r:LReg):0 < Q0e r:=Nat.two_pow_pos _
theorem Q66 {l:List LReg} (h:Q02 l=true):∀ r ∈ l,0≤r.log∧r.log≤6:=by
 intro r hr
 simp only [Q02,Bool.and_eq_true,List.all_eq_true] at h
 have:=h.1 r hr
 simpa [Q3a] using this
theorem Q3o {l:List LReg} (h:Q02 l=true):l.length≤6:=by
 simp only [Q02,Bool.and_eq_true,decide_eq_true_eq] at h
 exact h.2
theorem Q8x {p:Q00} (h:Q02 p.regs=true):Q14 p≤384:=by
 have h1:=Qkg (p.regs.map Q0e) 64 fun x hx=>by
  simp only [List.mem_map] at hx
  obtain ⟨r,hr,rfl⟩:=hx
  exact Q6u r (Q66 h r hr).2
 have h2:=Q3o h
 unfold Q14
 simp only [List.length_map] at h1
 omega
theorem Qti (p:Q00) (r:Nat):Q13 p r≤Q14 p:=by
 have:=Qew (p.regs.map Q0e) r
 rw [← List.map_take] at this
 exact this
theorem Q8i {p:Q00} (h:Q5e p=true):Q02 p.regs=true∧1≤p.code.length∧p.code.length≤8000∧∀ i ∈ p.code,Q01 p 10 i=true:=by
 simp only [Q5e,Q46,Bool.and_eq_true,decide_eq_true_eq,List.all_eq_true] at h
 exact ⟨h.1.1.1,h.1.1.2,by have:=h.1.2;omega,h.2⟩
theorem Q6a {p:Q00} (h:Q36 p=true):Q02 p.regs=true∧1≤p.code.length∧p.code.length≤200∧∀ i ∈ p.code,Q01 p 8 i=true:=by
 simp only [Q36,Q46,Bool.and_eq_true,decide_eq_true_eq,List.all_eq_true] at h
 exact ⟨h.1.1.1,h.1.1.2,by have:=h.1.2;omega,h.2⟩
theorem okIn_mono {a b n:Int} (h:a≤b) (k:okIn a n=true):okIn b n=true:=by
 simp only [okIn,Bool.and_eq_true,decide_eq_true_eq] at *
 omega
theorem Qi1 {p:Q00} {R S:Int} (h:R≤S) {i:LIns} (k:Q01 p R i=true):Q01 p S i=true:=by
 have f:=fun n=>@okIn_mono R S n h
 simp only [Q01] at *
 repeat' (split at k)
 all_goals simp_all
theorem Q35 {p:Q00} {R:Int} {i:LIns} (k:Q01 p R i=true) (hw:(Q0s i || Q0m i)=true):0≤i.c∧i.c.toNat < p.regs.length:=by
 simp only [Q0s,Q0m,Bool.or_eq_true,decide_eq_true_eq] at hw
 have hop:i.op=3∨i.op=4∨i.op=5∨i.op=6:=by omega
 simp only [Q01] at k
 rcases hop with h | h | h | h <;> simp [h,okIn] at k <;> omega
theorem Qrs {p:Q00} {i:LIns} {x:Int} (hp:Q02 p.regs=true) (hc:i.c.toNat < p.regs.length) (hx:Q2v p i x=true) :
  0≤x∧Q13 p i.c.toNat+x.toNat < Q14 p∧Q14 p≤384∧wrap64 (Q13 p i.c.toNat+x)=(Q13 p i.c.toNat+x.toNat:Nat):=by
 simp only [Q2v,Bool.and_eq_true,decide_eq_true_eq] at hx
 unfold Q0c at hx
 have h1:=Qbe p i.c.toNat hc
 have h2:=Q8x hp
 have h3:=hx.1
 have h4:=hx.2
 refine ⟨hx.1,by omega,h2,?_⟩
 unfold wrap64
 omega
section
variable (s : Spc)
@[simp] theorem Qty:s.leave.steps=s.steps:=by unfold Spc.leave;split <;> rfl
@[simp] theorem Qu1:s.leave.fin=s.fin:=by unfold Spc.leave;split <;> rfl
@[simp] theorem Qtx:s.leave.value=s.value:=by unfold Spc.leave;split <;> rfl
@[simp] theorem Qha:s.leave.seen=s.seen:=by unfold Spc.leave;split <;> rfl
@[simp] theorem Qu0:s.leave.script=s.script:=by unfold Spc.leave;split <;> rfl
@[simp] theorem Qq3:s.leave.pl=s.pl:=by unfold Spc.leave;split <;> rfl
@[simp] theorem Qu2:s.leave.ahead=true:=by unfold Spc.leave;split <;> simp_all
@[simp] theorem Qhb:s.leave.back=if s.ahead then s.back else s.pl:=by unfold Spc.leave;split <;> rfl
@[simp] theorem Qtz:s.leave.since=if s.ahead then s.since else -1:=by unfold Spc.leave;split <;> rfl
end
theorem Qt0 (i:LIns) (s:Spc):(Q4u i s).steps=s.steps:=by
 simp only [Q4u]
 split <;> simp [Spc.goTo,Spc.chosen]
theorem Qkf (i:LIns) (n:Nat) (s:Spc):(Q44 i n s).steps=s.steps:=by
 simp only [Q44]
 split <;> simp [Spc.goTo,Spc.chosen,Spc.put_]
theorem Qjs (p:Q00) (i:LIns) (s:Spc):(Q3h p i s).steps=s.steps:=by
 simp only [Q3h]
 repeat' split
 all_goals simp [Qkf,Spc.goTo,Spc.put_]
theorem Qix (p:Q00) (i:LIns) (s:Spc):(doS p i s).steps=s.steps:=by
 simp only [doS]
 repeat' split
 all_goals simp [Qjs,Qt0,Spc.goTo]
theorem Qbt (p:Q00) (i:LIns) (s:Spc):(Q34 p i s).steps=s.steps+1:=by
 simp only [Q34,Spc.returns]
 repeat' split
 all_goals simp [Qix]
theorem Qjx (p:Q00) (s:Spc):(upS p s).steps=s.steps∧(upS p s).fin=s.fin∧(upS p s).value=s.value∧(upS p s).script=s.script:=by
 unfold upS
 split <;> simp [Spc.returns]
end Go.Proofs.Yteiknefajlocoaa

namespace Go.Proofs.Yteiknefajlocoaa
open Go.RowKit
set_option linter.unusedSimpArgs false
set_option linter.unusedVariables false
theorem upS_none {p:Q00} {s:Spc} (h:p.code[(upS p s).pl.at_]? = none):(upS p s).ahead=false:=by
 unfold upS at h ⊢
 split
 ·rfl
 ·rename_i hn
  rw [if_neg hn] at h
  cases ha:s.ahead
  ·rfl
  ·exact absurd ⟨ha,List.getElem?_eq_none_iff.1 h⟩ hn
def Q1n (i:LIns):Bool:=Q0s i || Q0m i
def Q0y (p:Q00) (i:LIns) (a:Plc):Int:=wrap64 (Q13 p i.c.toNat+Q1a a.regs i)
def Q1z (p:Q00) (i:LIns) (a:Plc):Bool:=decide (0≤Q0y p i a) && decide (Q0y p i a < a.words.length)
def Q2s (p:Q00) (i:LIns) (a:Plc):List LSee :=
 if i.op=7∨i.op=8∨i.op=9∨i.op=12 then [] else if Q1n i then [⟨2,Q0y p i a,putN i⟩] else Q3b a.regs i
def Q24 (p:Q00) (i:LIns) (a:Plc):Bool:=decide (i.op=8) || (Q0m i && Q1z p i a)
def Q07 (p:Q00) (i:LIns) (a:Plc):Plc :=
 if i.op=7 then { a with at_:=i.n.toNat }
 else if i.op=8 then { a with at_:=if Q3d i.c (rg a.regs i.a) (rg a.regs i.b) then i.n.toNat else a.at_+1 }
 else if i.op=9∨i.op=12 then { a with at_:=a.at_+1 }
 else if Q0s i then
  (if Q1z p i a then { a with at_:=a.at_+1,past:=a.past.set (Q0y p i a).toNat (a.past.getD (Q0y p i a).toNat [] ++ [a.words.getD (Q0y p i a).toNat 0]),words:=a.words.set (Q0y p i a).toNat (rg a.regs i.a) }
  else { a with at_:=a.at_+1 })
 else if Q0m i then { a with at_:=a.at_+1,regs:=rset a.regs i.a (if Q1z p i a then a.words.getD (Q0y p i a).toNat 0 else 0) }
 else { a with at_:=a.at_+1,regs:=Q1i a.regs i }
def Q1b (p:Q00) (i:LIns) (a:Plc) (c:Int):Option Plc :=
 if i.op=8 then (if c=0 then none else some { a with at_:=if Q3d i.c (rg a.regs i.a) (rg a.regs i.b) then a.at_+1 else i.n.toNat })
 else if Q0m i && Q1z p i a then
  (if 0 < c∧c≤(a.past.getD (Q0y p i a).toNat []).length then
   some { a with at_:=a.at_+1,regs:=rset (rset a.regs i.a (a.words.getD (Q0y p i a).toNat 0)) i.a ((a.past.getD (Q0y p i a).toNat []).getD ((a.past.getD (Q0y p i a).toNat []).length - c.toNat) 0) }
  else none)
 else none
def Q27 (p:Q00) (i:LIns) (s:Spc):Spc :=
 let s':={ s with seen:=s.seen ++ Q2s p i s.pl,pl:=Q07 p i s.pl,script:=if Q24 p i s.pl then s.script.tail else s.script }
 match Q1b p i s.pl s.choice with
 | none=>s'
 | some w=>{ s'.leave with pl:=w }
theorem Q7f {i:LIns} (h:Q1n i=true):i.op=3∨i.op=4∨i.op=5∨i.op=6:=by
 simp only [Q1n,Q0s,Q0m,Bool.or_eq_true,decide_eq_true_eq] at h
 omega
theorem Qke (p:Q00) (i:LIns) (s:Spc) (hw:Q0m i=true) (hp:Q0s i=false) (hn:Q1z p i s.pl=true) (h8:¬ i.op=8) (k:Nat) (hk:(Q0y p i s.pl).toNat=k) (sn:List LSee) :
  Q44 i k { s with seen:=sn }=(match Q1b p i s.pl s.choice with
   | none=>{ s with seen:=sn,pl:=Q07 p i s.pl,script:=s.script.tail }
   | some w=>{ ({ s with seen:=sn,pl:=Q07 p i s.pl,script:=s.script.tail }:Spc).leave with pl:=w }):=by
 have h7:¬ i.op=7:=by intro h;simp [Q0m,h] at hw
 have h9:¬ (i.op=9∨i.op=12):=by rintro (h | h) <;> simp [Q0m,h] at hw
 subst hk
 have hr:Q07 p i s.pl={ s.pl with at_:=s.pl.at_+1,regs:=rset s.pl.regs i.a (s.pl.words.getD (Q0y p i s.pl).toNat 0) }:=by
  unfold Q07
  rw [if_neg h7,if_neg h8,if_neg h9,hp,if_neg (by simp),hw,if_pos rfl,hn,if_pos rfl]
 have hwr:Q1b p i s.pl s.choice=if 0 < s.choice∧s.choice≤(s.pl.past.getD (Q0y p i s.pl).toNat []).length then
   some { s.pl with at_:=s.pl.at_+1,regs:=rset (rset s.pl.regs i.a (s.pl.words.getD (Q0y p i s.pl).toNat 0)) i.a ((s.pl.past.getD (Q0y p i s.pl).toNat []).getD ((s.pl.past.getD (Q0y p i s.pl).toNat []).length - s.choice.toNat) 0) } else none:=by
  unfold Q1b
  rw [if_neg h8,hw,hn]
  rfl
 rw [hwr,hr]
 unfold Q44
 by_cases hc:0 < s.choice∧s.choice≤(s.pl.past.getD (Q0y p i s.pl).toNat []).length
 ·rw [if_pos hc]
  refine Eq.trans (if_pos hc) ?_
  simp only [Spc.goTo,Spc.chosen,Spc.put_,Spc.leave]
  cases s.ahead <;> rfl
 ·rw [if_neg hc]
  exact if_neg hc
theorem Qiy (p:Q00) (i:LIns) (s:Spc) (h9:i.op=9→s.ahead=true) (hin:Q1n i=true→Q2v p i (Q1a s.pl.regs i)=true∨s.ahead=true):doS p i s=Q27 p i s:=by
 unfold doS Q27
 split
 ·rename_i h
  simp [Q1b,Q2s,Q24,Q07,h,Spc.goTo,Q0m]
 split
 ·rename_i h7 h
  have hr:Q07 p i s.pl={ s.pl with at_:=if Q3d i.c (rg s.pl.regs i.a) (rg s.pl.regs i.b) then i.n.toNat else s.pl.at_+1 }:=by
   unfold Q07
   rw [if_neg h7,if_pos h]
  have hs:Q2s p i s.pl=[]:=by simp [Q2s,h]
  have hu:Q24 p i s.pl=true:=by simp [Q24,h]
  rw [hr,hs,hu,if_pos rfl,List.append_nil]
  unfold Q4u Q1b
  rw [if_pos h]
  by_cases hc:s.choice=0
  ·rw [if_pos hc,if_pos hc]
   rfl
  ·rw [if_neg hc,if_neg hc]
   simp only [Spc.goTo,Spc.chosen,Qq3]
 split
 ·rename_i h7 h8 h
  rw [if_pos (h9 h)]
  simp [Q1b,Q2s,Q24,Q07,h,Spc.goTo,Q0m]
 split
 ·rename_i h
  simp [Q1b,Q2s,Q24,Q07,h,Spc.goTo,Q0m]
 split
 ·rename_i h7 h8 h9' h12 hw
  have hw':Q1n i=true:=hw
  have hno:(!Q2v p i (Q1a s.pl.regs i) && !s.ahead)=false:=by
   rcases hin hw' with h | h <;> simp [h]
  have hs:Q2s p i s.pl=[⟨2,Q0y p i s.pl,putN i⟩]:=by
   simp [Q2s,h7,h8,h9',h12,hw']
  have e912:¬ (i.op=9∨i.op=12):=by omega
  unfold Q3h
  refine Eq.trans (if_neg (by rw [hno];simp)) ?_
  rw [hs]
  by_cases hn:Q1z p i s.pl=true
  ·have hn':=hn
   simp only [Q1z,Bool.and_eq_true,decide_eq_true_eq] at hn'
   refine Eq.trans (if_pos hn') ?_
   cases hp:Q0s i
   ·have ht:Q0m i=true:=by simpa [hp] using hw
    rw [if_neg (by simp)]
    have:=Qke p i s ht hp hn h8 (wrap64 (Q13 p i.c.toNat+Q1a s.pl.regs i)).toNat rfl (s.seen ++ [⟨2,Q0y p i s.pl,putN i⟩])
    rw [show Q24 p i s.pl=true by simp [Q24,ht,hn],if_pos rfl]
    exact this
   ·have ht:Q0m i=false:=by
     rcases Q7f hw' with h | h | h | h <;> simp [Q0s,Q0m,h] at hp ⊢
    have hwr:Q1b p i s.pl s.choice=none:=by
     unfold Q1b;rw [if_neg h8,ht];rfl
    have hu:Q24 p i s.pl=false:=by simp [Q24,ht,h8]
    rw [hwr,hu,if_pos rfl,if_neg (by simp)]
    unfold Q07
    rw [if_neg h7,if_neg h8,if_neg e912,hp,if_pos rfl,hn,if_pos rfl]
    rfl
  ·have hn1:Q1z p i s.pl=false:=by simpa using hn
   have hn2:¬ (0≤wrap64 (Q13 p i.c.toNat+Q1a s.pl.regs i)∧wrap64 (Q13 p i.c.toNat+Q1a s.pl.regs i) < s.pl.words.length):=by
    intro h
    apply hn
    simp only [Q1z,Bool.and_eq_true,decide_eq_true_eq]
    exact h
   refine Eq.trans (if_neg hn2) ?_
   have hwr:Q1b p i s.pl s.choice=none:=by
    unfold Q1b;rw [if_neg h8,hn1,Bool.and_false];rfl
   have hu:Q24 p i s.pl=false:=by simp [Q24,hn1,h8]
   rw [hwr,hu]
   unfold Q07
   rw [if_neg h7,if_neg h8,if_neg e912,hn1]
   cases hp:Q0s i
   ·have ht:Q0m i=true:=by simpa [hp] using hw
    rw [ht]
    rfl
   ·rfl
 ·rename_i h7 h8 h9' h12 hw
  have hpt:Q0s i=false∧Q0m i=false:=by simpa using hw
  have hw':Q1n i=false:=by simp [Q1n,hpt]
  simp [Q1b,Q2s,Q24,Q07,h7,h8,h9',h12,hpt,hw']
structure Sys (p:Q00) (C:Int→Prop) (IN IA:Plc→Plc→Prop) (End:List Int→List Int→Prop):Prop where
 at_:∀ a b,IA a b→a.at_=b.at_
 inc:∀ a b,IN a b→IA a b
 mem:∀ a b,IN a b→End a.words b.words
 uses:∀ a b i,IA a b→p.code[a.at_]? = some i→Q24 p i a=Q24 p i b
 sees:∀ a b i,IA a b→p.code[a.at_]? = some i→Q2s p i a=Q2s p i b
 wrong:∀ a b i c,IA a b→p.code[a.at_]? = some i→C c→(Q1b p i a c=none∧Q1b p i b c=none)∨∃ x y,Q1b p i a c=some x∧Q1b p i b c=some y∧IA x y
 right:∀ a b i,IA a b→p.code[a.at_]? = some i→i.op≠9→i.op≠12→IA (Q07 p i a) (Q07 p i b)
 rightN:∀ a b i,IN a b→p.code[a.at_]? = some i→i.op≠9→IN (Q07 p i a) (Q07 p i b)
 inside:∀ a b i,IN a b→p.code[a.at_]? = some i→Q1n i=true→Q2v p i (Q1a a.regs i)=true∧Q2v p i (Q1a b.regs i)=true
 halt:∀ a b i,IN a b→p.code[a.at_]? = some i→i.op=9→rg a.regs i.a=rg b.regs i.a
structure SRel (C:Int→Prop) (IN IA:Plc→Plc→Prop) (End:List Int→List Int→Prop) (s t:Spc):Prop where
 fin:s.fin=t.fin
 value:s.value=t.value
 steps:s.steps=t.steps
 seen:s.seen=t.seen
 script:s.script=t.script
 ahead:s.ahead=t.ahead
 since:s.since=t.since
 choices:C 0∧∀ c ∈ s.script,C c
 on:s.ahead=false→s.fin=0→IN s.pl t.pl
 end_:s.fin≠0→s.ahead=false∧End s.pl.words t.pl.words
 ah:s.ahead=true→s.fin=0∧IA s.pl t.pl∧IN s.back t.back
section
variable {p : Q00} {C : Int → Prop} {IN IA : Plc → Plc → Prop} {End : List Int → List Int → Prop} {s t : Spc}
theorem Qkn (h:SRel C IN IA End s t) (sys:Sys p C IN IA End) (h0:s.fin=0):SRel C IN IA End (upS p s) (upS p t):=by
 unfold upS
 cases ha:s.ahead
 ·have hb:t.ahead=false:=by rw [← h.ahead];exact ha
  rw [if_neg (by simp),if_neg (by simp [hb])]
  exact h
 ·have hb:t.ahead=true:=by rw [← h.ahead];exact ha
  obtain ⟨g1,g2,g3⟩:=h.ah ha
  have e:=sys.at_ _ _ g2
  by_cases hl:p.code.length≤s.pl.at_
  ·rw [if_pos ⟨rfl,hl⟩,if_pos ⟨hb,by rw [← e];exact hl⟩]
   exact ⟨h.fin,h.value,h.steps,by simp [Spc.returns,h.seen],h.script,rfl,h.since,h.choices,fun _ _=>g3,fun k=>absurd h0 k,fun k=>by simp [Spc.returns] at k⟩
  ·rw [if_neg (by simp [hl]),if_neg (by rw [← e];simp [hl])]
   exact h
theorem Qh0 {c:Int} {l:List Int} (h:c ∈ l.tail):c ∈ l:=List.mem_of_mem_tail h
theorem Qsu {u:Bool} {l:List Int} (h:C 0∧∀ c ∈ l,C c):C 0∧∀ c ∈ (if u then l.tail else l),C c:=by
 refine ⟨h.1,fun c hc=>h.2 c ?_⟩
 split at hc
 ·exact Qh0 hc
 ·exact hc
theorem Qsv (h:C 0∧∀ c ∈ s.script,C c):C s.choice:=by
 unfold Spc.choice
 cases hs:s.script with
 | nil=>exact h.1
 | cons c l=>exact h.2 c (by simp [hs])
theorem Qs6 (sys:Sys p C IN IA End) {i:LIns} (h0:s.fin=0) (hfin:t.fin=0) (hv:s.value=t.value) (hst:s.steps=t.steps) (hse:s.seen=t.seen) (hsc:s.script=t.script) (hah:s.ahead=t.ahead) (hsi:s.since=t.since)
  (hc:C 0∧∀ c ∈ s.script,C c) (hi:p.code[s.pl.at_]? = some i) (hA:IA s.pl t.pl) (hN:s.ahead=false→IN s.pl t.pl∧i.op≠9) (hB:s.ahead=true→IN s.back t.back)
  (hR:s.ahead=true→i.op≠9→i.op≠12→IA (Q07 p i s.pl) (Q07 p i t.pl)) :
  (Q27 p i s).fin=0∧(Q27 p i t).fin=0∧(Q27 p i s).value=(Q27 p i t).value∧(Q27 p i s).steps=(Q27 p i t).steps∧(Q27 p i s).seen=(Q27 p i t).seen∧(Q27 p i s).script=(Q27 p i t).script ∧
   (Q27 p i s).ahead=(Q27 p i t).ahead∧(Q27 p i s).since=(Q27 p i t).since∧(C 0∧∀ c ∈ (Q27 p i s).script,C c) ∧
   ((Q27 p i s).ahead=false→IN (Q27 p i s).pl (Q27 p i t).pl) ∧
   ((Q27 p i s).ahead=true→IN (Q27 p i s).back (Q27 p i t).back∧(i.op≠9→i.op≠12→IA (Q27 p i s).pl (Q27 p i t).pl)∧(s.ahead=false→IA (Q27 p i s).pl (Q27 p i t).pl)):=by
 have e1:=sys.sees _ _ i hA hi
 have e2:=sys.uses _ _ i hA hi
 have hch:=Qsu (u:=Q24 p i s.pl) hc
 have hcc:s.choice=t.choice:=by unfold Spc.choice;rw [hsc]
 have hw:=sys.wrong _ _ i s.choice hA hi (Qsv hc)
 unfold Q27
 rw [← hcc,← e1,← e2]
 rcases hw with ⟨w1,w2⟩ | ⟨x,y,w1,w2,hxy⟩
 ·rw [w1,w2]
  refine ⟨h0,hfin,hv,hst,by rw [hse],by rw [hsc],hah,hsi,hch,fun ha=>?_,fun ha=>⟨hB ha,fun n9 n12=>hR ha n9 n12,fun hf=>by simp [hf] at ha⟩⟩
  have:=hN ha
  exact sys.rightN _ _ i this.1 hi this.2
 ·rw [w1,w2]
  refine ⟨by simp [h0],by simp [hfin],by simp [hv],by simp [hst],by simp [hse],by simp [hsc],by simp,by simp [hah,hsi],by simpa using hch,fun ha=>by simp at ha,fun _=>⟨?_,fun _ _=>hxy,fun _=>hxy⟩⟩
  cases ha:s.ahead
  ·have hb:t.ahead=false:=by rw [← hah];exact ha
   have:=hN ha
   simp only [Qhb,ha,hb]
   exact sys.rightN _ _ i this.1 hi this.2
  ·have hb:t.ahead=true:=by rw [← hah];exact ha
   simp only [Qhb,ha,hb]
   exact hB ha
theorem Qko (h:SRel C IN IA End s t) (sys:Sys p C IN IA End) (h0:s.fin=0) {i:LIns} (hi:p.code[s.pl.at_]? = some i):SRel C IN IA End (Q34 p i s) (Q34 p i t):=by
 obtain ⟨s0,es⟩:∃ s0:Spc,s0={ s with steps:=s.steps+1,seen:=s.seen ++ [⟨1,s.pl.at_,0⟩] }:=⟨_,rfl⟩
 obtain ⟨t0,et⟩:∃ t0:Spc,t0={ t with steps:=t.steps+1,seen:=t.seen ++ [⟨1,t.pl.at_,0⟩] }:=⟨_,rfl⟩
 have hA:IA s.pl t.pl:=by
  cases ha:s.ahead
  ·exact sys.inc _ _ (h.on ha h0)
  ·exact (h.ah ha).2.1
 have e:=sys.at_ _ _ hA
 have hfin:t.fin=0:=by rw [← h.fin];exact h0
 have hstS:Q34 p i s=if (doS p i s0).ahead then (if Q31 i s || decide ((doS p i s0).since+1=12) then { doS p i s0 with since:=(doS p i s0).since+1 }.returns else { doS p i s0 with since:=(doS p i s0).since+1 }) else doS p i s0:=by
  rw [es];rfl
 have hstT:Q34 p i t=if (doS p i t0).ahead then (if Q31 i t || decide ((doS p i t0).since+1=12) then { doS p i t0 with since:=(doS p i t0).since+1 }.returns else { doS p i t0 with since:=(doS p i t0).since+1 }) else doS p i t0:=by
  rw [et];rfl
 have hover:Q31 i s=Q31 i t:=by unfold Q31;rw [h.ahead]
 by_cases h9:i.op=9∧s.ahead=false
 ·-- it halts
  obtain ⟨h9,ha⟩:=h9
  have hb:t.ahead=false:=by rw [← h.ahead];exact ha
  have hN:=h.on ha h0
  have ds:doS p i s0={ s0 with fin:=1,value:=rg s0.pl.regs i.a }:=by
   unfold doS
   rw [if_neg (by omega),if_neg (by omega),if_pos h9,if_neg (by rw [es];simp [ha])]
  have dt:doS p i t0={ t0 with fin:=1,value:=rg t0.pl.regs i.a }:=by
   unfold doS
   rw [if_neg (by omega),if_neg (by omega),if_pos h9,if_neg (by rw [et];simp [hb])]
  have a1:(doS p i s0).ahead=false:=by rw [ds,es];exact ha
  have a2:(doS p i t0).ahead=false:=by rw [dt,et];exact hb
  rw [hstS,hstT,if_neg (by rw [a1];simp),if_neg (by rw [a2];simp),ds,dt,es,et]
  exact ⟨rfl,sys.halt _ _ i hN hi h9,by simp [h.steps],by simp [h.seen,e],h.script,h.ahead,h.since,h.choices,fun _ k=>by simp at k,fun _=>⟨ha,sys.mem _ _ hN⟩,fun k=>by simp [ha] at k⟩
 ·have h9':i.op=9→s.ahead=true:=fun k=>by
   cases ha:s.ahead
   ·exact absurd ⟨k,ha⟩ h9
   ·rfl
  have hin:Q1n i=true→(Q2v p i (Q1a s.pl.regs i)=true∨s.ahead=true)∧(Q2v p i (Q1a t.pl.regs i)=true∨t.ahead=true):=fun hw=>by
   cases ha:s.ahead
   ·have:=sys.inside _ _ i (h.on ha h0) hi hw
    exact ⟨.inl this.1,.inl this.2⟩
   ·exact ⟨.inr rfl,.inr (by rw [← h.ahead];exact ha)⟩
  have gs:doS p i s0=Q27 p i s0:=Qiy p i s0 (by rw [es];exact h9') (by rw [es];exact fun hw=>(hin hw).1)
  have gt:doS p i t0=Q27 p i t0:=Qiy p i t0 (by rw [et];exact fun k=>by rw [← h.ahead];exact h9' k) (by rw [et];exact fun hw=>(hin hw).2)
  have G:=Qs6 (s:=s0) (t:=t0) sys (i:=i) (by rw [es];exact h0) (by rw [et];exact hfin) (by rw [es,et];exact h.value) (by rw [es,et];simp [h.steps]) (by rw [es,et];simp [h.seen,e]) (by rw [es,et];exact h.script) (by rw [es,et];exact h.ahead) (by rw [es,et];exact h.since)
   (by rw [es];exact h.choices) (by rw [es];exact hi) (by rw [es,et];exact hA)
   (by rw [es,et];exact fun ha=>⟨h.on ha h0,fun k=>by rw [h9' k] at ha;cases ha⟩) (by rw [es,et];exact fun ha=>(h.ah ha).2.2) (by rw [es,et];exact fun _ n9 n12=>sys.right _ _ i hA hi n9 n12)
  have ovs:s0.ahead=s.ahead:=by rw [es]
  rw [hstS,hstT,gs,gt,← hover]
  obtain ⟨k1,k2,k3,k4,k5,k6,k7,k8,k9,k10,k11⟩:=G
  generalize Q27 p i s0=s1 at *
  generalize Q27 p i t0=t1 at *
  rw [← k7,← k8]
  cases ha:s1.ahead
  ·rw [if_neg (by simp),if_neg (by simp)]
   exact ⟨by rw [k1,k2],k3,k4,k5,k6,by rw [← k7],k8,k9,fun _ _=>k10 ha,fun k=>absurd k1 k,fun k=>by rw [ha] at k;cases k⟩
  ·rw [if_pos rfl,if_pos rfl]
   obtain ⟨b1,b2,b3⟩:=k11 ha
   cases ho:Q31 i s || decide (s1.since+1=12)
   ·rw [if_neg (by simp),if_neg (by simp)]
    refine ⟨by simp [k1,k2],k3,k4,k5,k6,by simp [← k7],by simp,k9,fun k=>by simp [ha] at k,fun k=>absurd k1 k,fun _=>⟨k1,?_,b1⟩⟩
    cases hs:s.ahead
    ·exact b3 (by rw [ovs,hs])
    ·refine b2 (fun n9=>?_) (fun n12=>?_)
     ·simp [Q31,n9,hs] at ho
     ·simp [Q31,n12] at ho
   ·rw [if_pos rfl,if_pos rfl]
    exact ⟨by simp [Spc.returns,k1,k2],k3,k4,by simp [Spc.returns,k5],k6,rfl,by simp [Spc.returns],k9,fun _ _=>b1,fun k=>absurd k1 k,fun k=>by simp [Spc.returns] at k⟩
theorem Qc3 (sys:Sys p C IN IA End):∀ (k:Nat) (s t:Spc),SRel C IN IA End s t→SRel C IN IA End (runS p k s) (runS p k t)
 | 0,s,t,h=>by simpa [runS] using h
 | k+1,s,t,h=>by
  rw [runS,runS]
  by_cases h0:s.fin=0
  ·have h0':t.fin=0:=by rw [← h.fin];exact h0
   rw [if_neg (by simp [h0]),if_neg (by simp [h0'])]
   have hu:=Qkn h sys h0
   have hz:(upS p s).fin=0:=by rw [(Qjx p s).2.1];exact h0
   have hns:=@upS_none p s
   generalize upS p s=s1 at *
   generalize upS p t=t1 at *
   have hA:s1.pl.at_=t1.pl.at_:=by
    cases ha:s1.ahead
    ·exact sys.at_ _ _ (sys.inc _ _ (hu.on ha hz))
    ·exact sys.at_ _ _ (hu.ah ha).2.1
   rw [← hA]
   cases hc:p.code[s1.pl.at_]? with
   | none =>
    have ha:=hns hc
    exact ⟨rfl,hu.value,hu.steps,hu.seen,hu.script,hu.ahead,hu.since,hu.choices,fun _ k=>by simp at k,fun _=>⟨ha,sys.mem _ _ (hu.on ha hz)⟩,fun k=>by simp [ha] at k⟩
   | some i=>exact Qc3 sys k _ _ (Qko hu sys hz hc)
  ·have h0':¬ t.fin=0:=by rw [← h.fin];exact h0
   rw [if_pos (by simp [h0]),if_pos (by simp [h0'])]
   exact h
theorem Qg0 (sys:Sys p C IN IA End) (h:SRel C IN IA End s t):s.seen=t.seen∧s.fin=t.fin∧s.value=t.value∧s.steps=t.steps∧End (endS s).pl.words (endS t).pl.words:=by
 refine ⟨h.seen,h.fin,h.value,h.steps,?_⟩
 unfold endS
 rw [← h.ahead]
 cases ha:s.ahead
 ·by_cases h0:s.fin=0
  ·exact sys.mem _ _ (h.on ha h0)
  ·exact (h.end_ h0).2
 ·exact sys.mem _ _ (h.ah ha).2.2
end
def Q1j (p:Q00) (ws:List Int):List (List Int):=(List.range p.regs.length).map fun k=>(ws.drop (Q13 p k)).take (Q0e (p.regs.getD k default))
theorem Q9x (p:Q00) (ws:List Int):(Q1j p ws).length=p.regs.length:=by simp [Q1j]
theorem Qbv {p:Q00} (ws:List Int) {k:Nat} (hk:k < p.regs.length):(Q1j p ws).getD k default=(ws.drop (Q13 p k)).take (Q0e (p.regs.getD k default)):=by
 simp [Q1j,hk]
theorem Qtg (p:Q00):Q13 p 0=0:=by simp [Q13]
theorem Qth (p:Q00) {k:Nat} (hk:k < p.regs.length):Q13 p (k+1)=Q13 p k+Q0e (p.regs.getD k default):=by
 unfold Q13
 rw [List.map_take,List.map_take,Qev _ k (by simpa using hk)]
 simp [hk]
theorem Qtj (p:Q00) {k:Nat} (hk:p.regs.length≤k):Q13 p k=Q14 p:=by
 unfold Q13 Q14
 rw [List.take_of_length_le hk]
theorem Q9w {p:Q00} {ws:List Int} (hl:ws.length=Q14 p) {k:Nat} (hk:k < p.regs.length):((Q1j p ws).getD k default).length=Q0e (p.regs.getD k default):=by
 rw [Qbv ws hk,List.length_take,List.length_drop]
 have:=Qbe p k hk
 omega
theorem Q9y {p:Q00} (ws:List Int) {c x:Nat} (hc:c < p.regs.length) (hx:x < Q0e (p.regs.getD c default)):((Q1j p ws).getD c default).getD x 0=ws.getD (Q13 p c+x) 0:=by
 rw [Qbv ws hc]
 generalize Q0e (p.regs.getD c default)=W at *
 rw [List.getD_eq_getElem?_getD,List.getD_eq_getElem?_getD,List.getElem?_take,if_pos hx,List.getElem?_drop]
theorem Q8k {p:Q00} {m:List (List Int)} (h:Q2f p m=true):m.length=p.regs.length∧∀ k,k < p.regs.length→(m.getD k default).length=Q0e (p.regs.getD k default):=by
 simp only [Q2f,Bool.and_eq_true,decide_eq_true_eq,List.all_eq_true,List.mem_range] at h
 exact ⟨h.1.2,h.2⟩
theorem Qdt {p:Q00} {m:List (List Int)} (h:Q2f p m=true):∀ k,k≤p.regs.length→(m.take k).flatten.length=Q13 p k:=by
 obtain ⟨h1,h2⟩:=Q8k h
 intro k
 induction k with
 | zero=>intro _;simp [Qtg]
 | succ k ih =>
  intro hk
  rw [List.take_succ_eq_append_getElem (by omega),List.flatten_append,List.length_append,ih (by omega),Qth p (by omega),← h2 k (by omega)]
  simp [show k < m.length by omega]
theorem Q7t {p:Q00} {m:List (List Int)} (h:Q2f p m=true):m.flatten.length=Q14 p:=by
 have:=Qdt h p.regs.length (Nat.le_refl _)
 rw [Qtj p (Nat.le_refl _),List.take_of_length_le (by have:=(Q8k h).1;omega)] at this
 exact this
theorem Qf7 {p:Q00} {m:List (List Int)} (h:Q2f p m=true):Q1j p m.flatten=m:=by
 obtain ⟨h1,h2⟩:=Q8k h
 apply List.ext_getElem?
 intro k
 by_cases hk:k < p.regs.length
 ·have hm:k < m.length:=by omega
  have e:m=m.take k ++ m[k] :: m.drop (k+1):=by simp
  have hb:=Qdt h k (by omega)
  have hw:=h2 k hk
  have eg:m.getD k default=m[k]:=by simp [hm]
  rw [eg] at hw
  have e2:(Q1j p m.flatten)[k]? = some ((m.flatten.drop (Q13 p k)).take (Q0e (p.regs.getD k default))):=by simp [Q1j,hk]
  rw [e2,List.getElem?_eq_getElem hm]
  congr 1
  have e3:m.flatten=(m.take k).flatten ++ (m[k] ++ (m.drop (k+1)).flatten):=by
   conv=>lhs;rw [e]
   rw [List.flatten_append,List.flatten_cons]
  rw [e3,← hb,List.drop_left,← hw,List.take_left]
 ·rw [List.getElem?_eq_none (by rw [Q9x];omega),List.getElem?_eq_none (by omega)]
theorem Qjp (p:Q00) (ws:List Int) (P:Int→Prop) (h:∀ x ∈ ws,P x):∀ l ∈ Q1j p ws,∀ x ∈ l,P x:=by
 intro l hl x hx
 simp only [Q1j,List.mem_map,List.mem_range] at hl
 obtain ⟨k,_,rfl⟩:=hl
 exact h x (List.mem_of_mem_drop (List.mem_of_mem_take hx))
end Go.Proofs.Yteiknefajlocoaa

namespace Go.Proofs.Yteiknefajlocoaa
set_option linter.unusedVariables false
set_option linter.unusedSimpArgs false
theorem Qiw (s:Spc):(endS s).seen=s.seen∧(endS s).fin=s.fin∧(endS s).value=s.value∧(endS s).steps=s.steps:=by
 unfold endS
 split <;> exact ⟨rfl,rfl,rfl,rfl⟩
def Q5w:List LSee→List LSee→Nat
 | a :: x,b :: y=>if a=b then Q5w x y+1 else 0
 | _,_=>0
theorem Qe1:∀ (x y:List LSee) (k:Nat),k≤x.length→k≤y.length→(∀ j,j < k→x.getD j default=y.getD j default)→(k=x.length∨k=y.length∨x.getD k default≠y.getD k default)→Q5w x y=k
 | [],y,k,h1,h2,he,h3=>by
  have:k=0:=by simpa using h1
  subst this
  rfl
 | a :: x,[],k,h1,h2,he,h3=>by
  have:k=0:=by simpa using h2
  subst this
  rfl
 | a :: x,b :: y,0,h1,h2,he,h3=>by
  have hne:a≠b:=by
   rcases h3 with h | h | h
   ·simp at h
   ·simp at h
   ·simpa using h
  rw [Q5w,if_neg hne]
 | a :: x,b :: y,k+1,h1,h2,he,h3=>by
  have hab:a=b:=by simpa using he 0 (by omega)
  rw [Q5w,if_pos hab,Qe1 x y k (by simpa using h1) (by simpa using h2) (fun j hj=>by simpa using he (j+1) (by omega)) (by
   rcases h3 with h | h | h
   ·left;simpa using h
   ·right;left;simpa using h
   ·right;right;simpa using h)]
def Q5k (x y:List LSee):Bool:=decide (Q5w x y < x.length∨Q5w x y < y.length)
def Q6q (x y:List LSee):Int:=if Q5k x y then (Q5w x y:Int) else 0
theorem Qs7 {x y:List LSee} {k:Nat} (h1:k≤x.length) (h2:k≤y.length) (he:∀ j,j < k→x.getD j default=y.getD j default) (h3:k=x.length∨k=y.length∨x.getD k default≠y.getD k default) (h4:k < x.length∨k < y.length) :
  Q5k x y=true∧Q6q x y=k:=by
 have hd:=Qe1 x y k h1 h2 he h3
 have hb:Q5k x y=true:=by unfold Q5k;rw [hd];simpa using h4
 refine ⟨hb,?_⟩
 unfold Q6q
 rw [hb,hd]
 rfl
theorem Qih {x y:List LSee} {k:Nat} (h1:k=x.length) (h2:k=y.length) (he:∀ j,j < k→x.getD j default=y.getD j default):Q5k x y=false∧Q6q x y=0:=by
 have hd:=Qe1 x y k (by omega) (by omega) he (.inl h1)
 have hb:Q5k x y=false:=by
  unfold Q5k
  rw [hd]
  simp
  omega
 refine ⟨hb,?_⟩
 unfold Q6q
 rw [hb]
 rfl
theorem Qig (x:List LSee):Q5k x x=false∧Q6q x x=0:=Qih rfl rfl (fun _ _=>rfl)
end Go.Proofs.Yteiknefajlocoaa
