/- Laid together from: NumP, Sem, SemL, Flat, SpecL, Quiet, SpP. -/
import Derived.WalkKit
import Derived.Laws.BitsAllLaws
import Derived.Laws.BitsLemmas
import Derived.Test.YtalpnmjaafcpoaaSpecBackB1

namespace Go.Proofs.Ytalpnmjaafcpoaa
open Go.RowKit
def u64 (n : Int) : Int := n % 18446744073709551616
def sh (b : Int) : Nat := (b % 64).toNat
def nop (op a b : Int) : Int :=
 if op = 1 then wrap64 (a + b) else if op = 2 then wrap64 (a - b) else if op = 3 then wrap64 (a * b)
 else if op = 4 then bits .and .i64 a b else if op = 5 then bits .or .i64 a b else if op = 6 then bits .xor .i64 a b
 else if op = 7 then wrap64 (u64 a * 2 ^ sh b) else if op = 8 then wrap64 (u64 a / 2 ^ sh b)
 else if op = 9 then (if u64 b = 0 then 0 else wrap64 (u64 a / u64 b))
 else if op = 10 then (if u64 b = 0 then a else wrap64 (u64 a % u64 b)) else 0
def Q42 (c a b : Int) : Bool :=
 (c == 1 && a == b) || (c == 2 && a != b) || (c == 3 && decide (u64 a < u64 b)) || (c == 4 && !decide (u64 a < u64 b))
theorem Q99 (n : Int) : IntKind.i64.wrap n = wrap64 n := IntWalk.i64_left n
theorem Q4g (n : Int) : IntKind.u64.wrap n = u64 n := by rw [IntKind.wrap_u64]; rfl
theorem Q7h (n : Int) : 0 ≤ u64 n := by unfold u64; omega
theorem Qau (b : Int) : sh b < 64 := by unfold sh; omega
theorem Q77 (b : Int) : bits .and .u64 (IntKind.u64.wrap b) 63 = (sh b : Int) := by
 show IntKind.u64.wrap ((BitVec.ofInt 64 (IntKind.u64.wrap b) &&& BitVec.ofInt 64 63).toNat : Int) = _
 rw [BitVec.toNat_and, IntKind.wrap_u64, IntKind.wrap_u64]
 have h63 : (BitVec.ofInt 64 63).toNat = 2 ^ 6 - 1 := by decide
 rw [h63, Nat.and_two_pow_sub_one_eq_mod, BitVec.toNat_ofInt]
 unfold sh
 omega
theorem and63' (b : Int) : bits .and .u64 (u64 b) 63 = (sh b : Int) := by rw [← Q4g]; exact Q77 b
theorem Qat (b : Int) : min (sh b) 64 = sh b := Nat.min_eq_left (Nat.le_of_lt (Qau b))
theorem Q9l (x : Int) : wrap64 (IntKind.u64.wrap x) = wrap64 x := by rw [IntKind.wrap_u64]; unfold wrap64; omega
theorem Q9z (a b : Int) : (u64 a).tdiv (u64 b) = u64 a / u64 b := Int.tdiv_eq_ediv_of_nonneg (Q7h a)
theorem Q9y (a b : Int) : (u64 a).tmod (u64 b) = u64 a % u64 b := Int.tmod_eq_emod_of_nonneg (Q7h a)
structure LSee where
 kind : Int
 a : Int
 b : Int
 deriving DecidableEq, Inhabited
def rg (r : List Int) (i : Int) : Int := r.getD i.toNat 0
def rset (r : List Int) (i v : Int) : List Int := r.set i.toNat v
def Q04 (p : Q00) (r : Nat) : Nat := ((p.regs.take r).map Q0b).sum
def Q0r (p : Q00) : Nat := (p.regs.map Q0b).sum
def Q8e (p : Q00) (i : LIns) : LReg := p.regs.getD i.c.toNat default
def Q08 (i : LIns) : Bool := decide (i.op = 4) || decide (i.op = 6)
def Q14 (i : LIns) : Bool := decide (i.op = 3) || decide (i.op = 5)
def putN (i : LIns) : Int := if Q08 i then 1 else 0
def Q0p (r : List Int) (i : LIns) : Int := if i.op = 5 ∨ i.op = 6 then i.n else wrap64 (rg r i.b + i.n)
def Q1c (p : Q00) (i : LIns) (x : Int) : Bool := decide (0 ≤ x) && decide (x < (Q0b (Q8e p i) : Nat))
def Q12 (r : List Int) (i : LIns) : List Int :=
 if i.op = 1 then rset r i.a i.n
 else if i.op = 2 then rset r i.a (rg r i.b)
 else if i.op = 10 then rset r i.a (wrap64 (rg r i.b + i.n))
 else if i.op = 11 then (if rg r i.a < 0 ∨ i.n ≤ rg r i.a then rset r i.a 0 else r)
 else if i.op = 12 then r
 else rset r i.a (nop (i.op - 20) (rg r i.b) (rg r i.c))
def Q1b (r : List Int) (i : LIns) : List LSee := if i.op = 29 ∨ i.op = 30 then [⟨3, rg r i.b, rg r i.c⟩] else []
structure Mach where
 regs : List Int
 words : List Int
 at_ : Nat
 fin : Int
 value : Int
 steps : Nat
 seen : List LSee
 deriving DecidableEq, Inhabited
def Q01 (ws : List Int) : Mach := ⟨List.replicate 10 0, ws, 0, 0, 0, 0, []⟩
def Q06 (p : Q00) (i : LIns) (m : Mach) : Mach :=
 let s := m.seen ++ [⟨1, m.at_, 0⟩]
 let k := m.steps + 1
 if i.op = 7 then { m with at_ := i.n.toNat, steps := k, seen := s }
 else if i.op = 8 then { m with at_ := (if Q42 i.c (rg m.regs i.a) (rg m.regs i.b) then i.n.toNat else m.at_ + 1), steps := k, seen := s }
 else if i.op = 9 then { m with at_ := m.at_ + 1, steps := k, seen := s, fin := 1, value := rg m.regs i.a }
 else if Q08 i || Q14 i then
  let x := Q0p m.regs i
  if Q1c p i x then
   let n := Q04 p i.c.toNat + x.toNat
   let s' := s ++ [⟨2, n, putN i⟩]
   if Q08 i then { m with at_ := m.at_ + 1, steps := k, seen := s', words := m.words.set n (rg m.regs i.a) }
   else { m with at_ := m.at_ + 1, steps := k, seen := s', regs := rset m.regs i.a (m.words.getD n 0) }
  else { m with at_ := m.at_ + 1, steps := k, seen := s, fin := 2 }
 else { m with at_ := m.at_ + 1, steps := k, seen := s ++ Q1b m.regs i, regs := Q12 m.regs i }
def runM (p : Q00) : Nat → Mach → Mach
 | 0, m => m
 | k + 1, m =>
  if m.fin ≠ 0 then m
  else match p.code[m.at_]? with
   | none => { m with fin := 2 }
   | some i => runM p k (Q06 p i m)
structure Plc where
 regs : List Int
 words : List Int
 past : List (List Int)
 at_ : Nat
 deriving DecidableEq, Inhabited
structure Spc where
 pl : Plc
 fin : Int
 value : Int
 steps : Nat
 seen : List LSee
 script : List Int
 ahead : Bool
 since : Int
 back : Plc
 deriving DecidableEq, Inhabited
def Q0s (ws script : List Int) : Spc := ⟨⟨List.replicate 10 0, ws, List.replicate ws.length [], 0⟩, 0, 0, 0, [], script, false, 0, ⟨[], [], [], 0⟩⟩
def Spc.choice (s : Spc) : Int := s.script.headD 0
def Spc.chosen (s : Spc) : Spc := { s with script := s.script.tail }
def Spc.leave (s : Spc) : Spc := if s.ahead then s else { s with ahead := true, since := -1, back := s.pl }
def Spc.returns (s : Spc) : Spc := { s with seen := s.seen ++ [⟨4, 0, 0⟩], ahead := false, pl := s.back }
def Spc.goTo (s : Spc) (k : Nat) : Spc := { s with pl := { s.pl with at_ := k } }
def Spc.put_ (s : Spc) (a v : Int) : Spc := { s with pl := { s.pl with regs := rset s.pl.regs a v } }
def Q1i (i : LIns) (s : Spc) : Spc :=
 let h := Q42 i.c (rg s.pl.regs i.a) (rg s.pl.regs i.b)
 let right := if h then i.n.toNat else s.pl.at_ + 1
 let wrong := if h then s.pl.at_ + 1 else i.n.toNat
 let s1 := (s.goTo right).chosen
 if s.choice = 0 then s1 else s1.leave.goTo wrong
def Q18 (i : LIns) (n : Nat) (s : Spc) : Spc :=
 let l := s.pl.past.getD n []
 let c := s.choice
 let s1 := ((s.goTo (s.pl.at_ + 1)).chosen).put_ i.a (s.pl.words.getD n 0)
 if 0 < c ∧ c ≤ l.length then s1.leave.put_ i.a (l.getD (l.length - c.toNat) 0) else s1
def Q17 (p : Q00) (i : LIns) (s : Spc) : Spc :=
 let x := Q0p s.pl.regs i
 if !Q1c p i x && !s.ahead then { s with fin := 2 }
 else
  let n := wrap64 (Q04 p i.c.toNat + x)
  let s1 := { s with seen := s.seen ++ [⟨2, n, putN i⟩] }
  if 0 ≤ n ∧ n < s.pl.words.length then
   if Q08 i then { s1 with pl := { s1.pl with at_ := s1.pl.at_ + 1, past := s1.pl.past.set n.toNat (s1.pl.past.getD n.toNat [] ++ [s1.pl.words.getD n.toNat 0]), words := s1.pl.words.set n.toNat (rg s1.pl.regs i.a) } }
   else Q18 i n.toNat s1
  else
   let s2 := s1.goTo (s1.pl.at_ + 1)
   if Q08 i then s2 else s2.put_ i.a 0
def doS (p : Q00) (i : LIns) (s : Spc) : Spc :=
 if i.op = 7 then s.goTo i.n.toNat
 else if i.op = 8 then Q1i i s
 else if i.op = 9 then (if s.ahead then s.goTo (s.pl.at_ + 1) else { s with fin := 1, value := rg s.pl.regs i.a })
 else if i.op = 12 then s.goTo (s.pl.at_ + 1)
 else if Q08 i || Q14 i then Q17 p i s
 else { s with seen := s.seen ++ Q1b s.pl.regs i, pl := { s.pl with regs := Q12 s.pl.regs i, at_ := s.pl.at_ + 1 } }
def Q1q (i : LIns) (s : Spc) : Bool := (decide (i.op = 9) && s.ahead) || decide (i.op = 12)
def Q0d (p : Q00) (i : LIns) (s : Spc) : Spc :=
 let s0 := { s with steps := s.steps + 1, seen := s.seen ++ [⟨1, s.pl.at_, 0⟩] }
 let s1 := doS p i s0
 if s1.ahead then
  let s2 := { s1 with since := s1.since + 1 }
  if Q1q i s || decide (s2.since = 12) then s2.returns else s2
 else s1
def upS (p : Q00) (s : Spc) : Spc := if s.ahead ∧ p.code.length ≤ s.pl.at_ then s.returns else s
def runS (p : Q00) : Nat → Spc → Spc
 | 0, s => s
 | k + 1, s =>
  if s.fin ≠ 0 then s
  else match p.code[(upS p s).pl.at_]? with
   | none => { upS p s with fin := 2 }
   | some i => runS p k (Q0d p i (upS p s))
def endS (s : Spc) : Spc := if s.ahead then { s with pl := s.back } else s
theorem Q58 {p : Q00} {m : Mach} (h : m.fin ≠ 0) (k : Nat) : runM p k m = m := by
 cases k with
 | zero => rfl
 | succ k => rw [runM, if_pos h]
theorem Q87 (p : Q00) (j : Nat) : ∀ (k : Nat) (m : Mach), runM p (k + j) m = runM p j (runM p k m)
 | 0, m => by simp [runM]
 | k + 1, m => by
  rw [Nat.succ_add, runM, runM]
  by_cases h : m.fin ≠ 0
  ·rw [if_pos h, if_pos h, Q58 h]
  ·rw [if_neg h, if_neg h]
   cases hc : p.code[m.at_]? with
   | none => exact (Q58 (m := { m with fin := 2 }) (by simp) j).symm
   | some i => exact Q87 p j k (Q06 p i m)
theorem Q53 (p : Q00) (i : LIns) (m : Mach) : (Q06 p i m).steps = m.steps + 1 := by
 simp only [Q06]
 repeat' split
 all_goals rfl
theorem Q7k (l : List Nat) : ∀ k : Nat, (l.take k).sum ≤ l.sum := by
 induction l with
 | nil => intro k; simp
 | cons a l ih =>
  intro k
  cases k with
  | zero => simp
  | succ k => have := ih k; simp; omega
theorem Q7j (l : List Nat) : ∀ k : Nat, k < l.length → (l.take (k + 1)).sum = (l.take k).sum + l.getD k 0 := by
 induction l with
 | nil => intro k hk; simp at hk
 | cons a l ih =>
  intro k hk
  cases k with
  | zero => simp
  | succ k =>
   have := ih k (by simpa using hk)
   simp only [List.take_succ_cons, List.sum_cons, List.getD_cons_succ]
   omega
theorem Q4w (p : Q00) (r : Nat) (hr : r < p.regs.length) : Q04 p r + Q0b (p.regs.getD r default) ≤ Q0r p := by
 have h1 := Q7j (p.regs.map Q0b) r (by simpa using hr)
 have h2 := Q7k (p.regs.map Q0b) (r + 1)
 unfold Q04 Q0r
 rw [← List.map_take] at h1
 have : (List.map Q0b p.regs).getD r 0 = Q0b (p.regs.getD r default) := by simp [hr]
 rw [this, List.map_take] at h1
 rw [List.map_take]
 omega
theorem Qa9 (l : List Nat) (n : Nat) (h : ∀ x ∈ l, x ≤ n) : l.sum ≤ l.length * n := by
 induction l with
 | nil => simp
 | cons a l ih =>
  have h1 := h a (by simp)
  have h2 := ih fun x hx => h x (by simp [hx])
  simp only [List.sum_cons, List.length_cons, Nat.succ_mul]
  omega
theorem Q4c (r : LReg) (h : r.log ≤ 6) : Q0b r ≤ 64 := by
 unfold Q0b
 exact Nat.le_trans (Nat.pow_le_pow_right (by omega) (show r.log.toNat ≤ 6 by omega)) (by decide)
theorem Q9q (r : LReg) : 0 < Q0b r := Nat.two_pow_pos _
theorem Q4m {l : List LReg} (h : Q0k l = true) : ∀ r ∈ l, 0 ≤ r.log ∧ r.log ≤ 6 := by
 intro r hr
 simp only [Q0k, Bool.and_eq_true, List.all_eq_true] at h
 have := h.1 r hr
 simpa [Q28] using this
theorem Q3z {l : List LReg} (h : Q0k l = true) : l.length ≤ 6 := by
 simp only [Q0k, Bool.and_eq_true, decide_eq_true_eq] at h
 exact h.2
theorem Q3y {p : Q00} (h : Q0k p.regs = true) : Q0r p ≤ 384 := by
 have h1 := Qa9 (p.regs.map Q0b) 64 fun x hx => by
  simp only [List.mem_map] at hx
  obtain ⟨r, hr, rfl⟩ := hx
  exact Q4c r (Q4m h r hr).2
 have h2 := Q3z h
 unfold Q0r
 simp only [List.length_map] at h1
 omega
theorem Qeq (p : Q00) (r : Nat) : Q04 p r ≤ Q0r p := by
 have := Q7k (p.regs.map Q0b) r
 rw [← List.map_take] at this
 exact this
theorem Q2z {p : Q00} (h : Q23 p = true) : Q0k p.regs = true ∧ 1 ≤ p.code.length ∧ p.code.length ≤ 8000 ∧ ∀ i ∈ p.code, Q05 p 10 i = true := by
 simp only [Q23, Q4o, Bool.and_eq_true, decide_eq_true_eq, List.all_eq_true] at h
 exact ⟨h.1.1.1, h.1.1.2, by have := h.1.2; omega, h.2⟩
theorem Q8c {p : Q00} {R : Int} {i : LIns} (k : Q05 p R i = true) (hw : (Q08 i || Q14 i) = true) : 0 ≤ i.c ∧ i.c.toNat < p.regs.length := by
 simp only [Q08, Q14, Bool.or_eq_true, decide_eq_true_eq] at hw
 have hop : i.op = 3 ∨ i.op = 4 ∨ i.op = 5 ∨ i.op = 6 := by omega
 simp only [Q05] at k
 rcases hop with h | h | h | h <;> simp [h, okIn] at k <;> omega
theorem Qdv {p : Q00} {i : LIns} {x : Int} (hp : Q0k p.regs = true) (hc : i.c.toNat < p.regs.length) (hx : Q1c p i x = true) :
  0 ≤ x ∧ Q04 p i.c.toNat + x.toNat < Q0r p ∧ Q0r p ≤ 384 ∧ wrap64 (Q04 p i.c.toNat + x) = (Q04 p i.c.toNat + x.toNat : Nat) := by
 simp only [Q1c, Bool.and_eq_true, decide_eq_true_eq] at hx
 unfold Q8e at hx
 have h1 := Q4w p i.c.toNat hc
 have h2 := Q3y hp
 have h3 := hx.1
 have h4 := hx.2
 refine ⟨hx.1, by omega, h2, ?_⟩
 unfold wrap64
 omega
def At (a : Plc) (m : Mach) : Prop := a.regs = m.regs ∧ a.words = m.words ∧ a.at_ = m.at_
section
variable (s : Spc)
@[simp] theorem Qf4 : s.leave.steps = s.steps := by unfold Spc.leave; split <;> rfl
@[simp] theorem Q96 : s.leave.fin = s.fin := by unfold Spc.leave; split <;> rfl
@[simp] theorem Qf3 : s.leave.value = s.value := by unfold Spc.leave; split <;> rfl
@[simp] theorem Q95 : s.leave.seen = s.seen := by unfold Spc.leave; split <;> rfl
@[simp] theorem Qf6 : s.leave.script = s.script := by unfold Spc.leave; split <;> rfl
@[simp] theorem Qf7 : s.leave.pl = s.pl := by unfold Spc.leave; split <;> rfl
@[simp] theorem Qf9 : s.leave.ahead = true := by unfold Spc.leave; split <;> simp_all
@[simp] theorem Qf8 : s.leave.back = if s.ahead then s.back else s.pl := by unfold Spc.leave; split <;> rfl
@[simp] theorem Qf5 : s.leave.since = if s.ahead then s.since else -1 := by unfold Spc.leave; split <;> rfl
end
theorem Qem (i : LIns) (s : Spc) : (Q1i i s).steps = s.steps := by
 simp only [Q1i]
 split <;> simp [Spc.goTo, Spc.chosen]
theorem Qa7 (i : LIns) (n : Nat) (s : Spc) : (Q18 i n s).steps = s.steps := by
 simp only [Q18]
 split <;> simp [Spc.goTo, Spc.chosen, Spc.put_]
theorem Q9t (p : Q00) (i : LIns) (s : Spc) : (Q17 p i s).steps = s.steps := by
 simp only [Q17]
 repeat' split
 all_goals simp [Qa7, Spc.goTo, Spc.put_]
theorem Q9e (p : Q00) (i : LIns) (s : Spc) : (doS p i s).steps = s.steps := by
 simp only [doS]
 repeat' split
 all_goals simp [Q9t, Qem, Spc.goTo]
theorem Q4h (p : Q00) (i : LIns) (s : Spc) : (Q0d p i s).steps = s.steps + 1 := by
 simp only [Q0d, Spc.returns]
 repeat' split
 all_goals simp [Q9e]
theorem Q61 (p : Q00) (s : Spc) : (upS p s).steps = s.steps ∧ (upS p s).fin = s.fin ∧ (upS p s).value = s.value ∧ (upS p s).script = s.script := by
 unfold upS
 split <;> simp [Spc.returns]
end Go.Proofs.Ytalpnmjaafcpoaa

namespace Go.Proofs.Ytalpnmjaafcpoaa
open Go.RowKit
set_option linter.unusedSimpArgs false
set_option linter.unusedVariables false
def Q0v (p : Q00) (ws : List Int) : List (List Int) := (List.range p.regs.length).map fun k => (ws.drop (Q04 p k)).take (Q0b (p.regs.getD k default))
theorem Q67 (p : Q00) (ws : List Int) : (Q0v p ws).length = p.regs.length := by simp [Q0v]
theorem Q7q {p : Q00} (ws : List Int) {k : Nat} (hk : k < p.regs.length) : (Q0v p ws).getD k default = (ws.drop (Q04 p k)).take (Q0b (p.regs.getD k default)) := by
 simp [Q0v, hk]
theorem Qeo (p : Q00) : Q04 p 0 = 0 := by simp [Q04]
theorem Qep (p : Q00) {k : Nat} (hk : k < p.regs.length) : Q04 p (k + 1) = Q04 p k + Q0b (p.regs.getD k default) := by
 unfold Q04
 rw [List.map_take, List.map_take, Q7j _ k (by simpa using hk)]
 simp [hk]
theorem Qer (p : Q00) {k : Nat} (hk : p.regs.length ≤ k) : Q04 p k = Q0r p := by
 unfold Q04 Q0r
 rw [List.take_of_length_le hk]
theorem Qan {p : Q00} {ws : List Int} (hl : ws.length = Q0r p) {k : Nat} (hk : k < p.regs.length) : ((Q0v p ws).getD k default).length = Q0b (p.regs.getD k default) := by
 rw [Q7q ws hk, List.length_take, List.length_drop]
 have := Q4w p k hk
 omega
theorem Q6x {p : Q00} {m : List (List Int)} (h : Q24 p m = true) : m.length = p.regs.length ∧ ∀ k, k < p.regs.length → (m.getD k default).length = Q0b (p.regs.getD k default) := by
 simp only [Q24, Bool.and_eq_true, decide_eq_true_eq, List.all_eq_true, List.mem_range] at h
 exact ⟨h.1.2, h.2⟩
theorem Q9a {p : Q00} {m : List (List Int)} (h : Q24 p m = true) : ∀ k, k ≤ p.regs.length → (m.take k).flatten.length = Q04 p k := by
 obtain ⟨h1, h2⟩ := Q6x h
 intro k
 induction k with
 | zero => intro _; simp [Qeo]
 | succ k ih =>
  intro hk
  rw [List.take_succ_eq_append_getElem (by omega), List.flatten_append, List.length_append, ih (by omega), Qep p (by omega), ← h2 k (by omega)]
  simp [show k < m.length by omega]
theorem Q5q {p : Q00} {m : List (List Int)} (h : Q24 p m = true) : m.flatten.length = Q0r p := by
 have := Q9a h p.regs.length (Nat.le_refl _)
 rw [Qer p (Nat.le_refl _), List.take_of_length_le (by have := (Q6x h).1; omega)] at this
 exact this
theorem Q9r (p : Q00) (ws : List Int) (P : Int → Prop) (h : ∀ x ∈ ws, P x) : ∀ l ∈ Q0v p ws, ∀ x ∈ l, P x := by
 intro l hl x hx
 simp only [Q0v, List.mem_map, List.mem_range] at hl
 obtain ⟨k, _, rfl⟩ := hl
 exact h x (List.mem_of_mem_drop (List.mem_of_mem_take hx))
structure Q5x (s s' : Spc) : Prop where
 ahead : s'.ahead = true
 back : s'.back = s.back
 fin : s'.fin = s.fin
 value : s'.value = s.value
theorem Qee (p : Q00) (i : LIns) (s : Spc) (h : s.ahead = true) : Q5x s (doS p i s) := by
 have hb : Q5x s (Q1i i s) := by
  simp only [Q1i]
  split <;> constructor <;> simp [Spc.goTo, Spc.chosen, h]
 have ht : ∀ (n : Nat) (s : Spc), s.ahead = true → Q5x s (Q18 i n s) := by
  intro n s h
  simp only [Q18]
  split <;> constructor <;> simp [Spc.goTo, Spc.chosen, Spc.put_, h]
 have hw : Q5x s (Q17 p i s) := by
  simp only [Q17]
  rw [if_neg (by simp [h])]
  split
  ·split
   ·constructor <;> simp [h]
   ·have := ht (wrap64 (Q04 p i.c.toNat + Q0p s.pl.regs i)).toNat { s with seen := s.seen ++ [⟨2, wrap64 (Q04 p i.c.toNat + Q0p s.pl.regs i), putN i⟩] } h
    exact ⟨this.1, this.2, this.3, this.4⟩
  ·split <;> constructor <;> simp [Spc.goTo, Spc.put_, h]
 simp only [doS]
 split
 ·constructor <;> simp [Spc.goTo, h]
 split
 ·exact hb
 split
 ·constructor <;> simp [Spc.goTo, h]
 split
 ·constructor <;> simp [Spc.goTo, h]
 split
 ·exact hw
 ·constructor <;> simp [h]
structure Does (s : Spc) (m : Mach) : Prop where
 fin : s.fin = m.fin
 value : s.value = m.value
 seen : s.seen = m.seen
 on : s.ahead = false → s.fin = 0 → At s.pl m
 back : s.ahead = true → s.fin = 0 ∧ At s.back m
 words : s.fin ≠ 0 → s.pl.words = m.words
theorem Qa8 (i : LIns) (s : Spc) (m : Mach) (n : Nat) (hA : s.ahead = false) (hf : s.fin = 0) (hAt : At s.pl m) (hm : m.fin = 0) (hv : s.value = m.value) (seen : List LSee) (k : Nat) (h : s.seen = seen) :
  Does (Q18 i n s) { m with at_ := m.at_ + 1, steps := k, seen := seen, regs := rset m.regs i.a (m.words.getD n 0) } := by
 obtain ⟨h1, h2, h3⟩ := hAt
 simp only [Q18]
 split
 ·constructor <;> simp [Spc.goTo, Spc.chosen, Spc.put_, hA, hf, hv, h, hm, At, h1, h2, h3]
 ·constructor <;> simp [Spc.goTo, Spc.chosen, Spc.put_, hA, hf, hv, h, hm, At, h1, h2, h3]
theorem Qec (p : Q00) (i : LIns) (s : Spc) (m : Mach) (hp : Q23 p = true) (hi : i ∈ p.code) (hA : s.ahead = false) (hf : s.fin = 0) (hAt : At s.pl m) (hm : m.fin = 0) (hv : s.value = m.value)
  (hs : s.seen = m.seen ++ [⟨1, m.at_, 0⟩]) (hl : m.words.length = Q0r p) : Does (doS p i s) (Q06 p i m) := by
 obtain ⟨p1, p2, p3, p4⟩ := Q2z hp
 have hAt' := hAt
 obtain ⟨h1, h2, h3⟩ := hAt'
 simp only [doS, Q06]
 split
 ·constructor <;> simp [Spc.goTo, hA, hf, hv, hs, hm, At, h1, h2]
 split
 ·simp only [Q1i]
  split
  ·constructor <;> simp [Spc.goTo, Spc.chosen, hA, hf, hv, hs, hm, At, h1, h2, h3]
  ·constructor <;> simp [Spc.goTo, Spc.chosen, hA, hf, hv, hs, hm, At, h1, h2, h3]
 split
 ·rw [if_neg (by simp [hA])]
  constructor <;> simp [hA, hs, h1, h2]
 split
 ·rename_i h7 h8 h9 h12
  have hw : (Q08 i || Q14 i) = false := by simp [Q08, Q14, h12]
  rw [hw]
  constructor <;> simp [Spc.goTo, Q1b, Q12, h12, hA, hf, hv, hs, hm, At, h1, h2, h3]
 split
 ·rename_i hw
  obtain ⟨hc0, hc⟩ := Q8c (p4 i hi) hw
  simp only [Q17, hA, Bool.not_false, Bool.and_true, Bool.not_eq_true']
  rw [h1]
  split
  ·rename_i hin
   rw [if_neg (by simp [hin])]
   constructor <;> simp [hA, hv, hs, h2]
  ·rename_i hin
   have hin' : Q1c p i (Q0p m.regs i) = true := by simpa using hin
   obtain ⟨i1, i2, i3, i4⟩ := Qdv p1 hc hin'
   rw [if_pos hin', i4, if_pos (by rw [h2, hl]; omega)]
   simp only [Int.toNat_natCast]
   split
   ·constructor <;> simp [hA, hf, hv, hs, hm, At, h1, h2, h3]
   ·refine Qa8 i { s with seen := _, ahead := false } m _ rfl hf ⟨h1, h2, h3⟩ hm hv _ _ ?_
    simp [hs]
 ·constructor <;> simp [hA, hf, hv, hs, hm, At, h1, h2, h3]
structure Q32 (p : Q00) (s : Spc) (m : Mach) : Prop where
 fs : s.fin = 0
 fm : m.fin = 0
 value : s.value = m.value
 on : s.ahead = false → At s.pl m
 back : s.ahead = true → At s.back m
 len : m.words.length = Q0r p
theorem Qag (p : Q00) (i : LIns) (m : Mach) : (Q06 p i m).words.length = m.words.length := by
 simp only [Q06]
 repeat' split
 all_goals simp
theorem Qcp {p : Q00} {s : Spc} {m : Mach} (h : Q32 p s m) : Q32 p (upS p s) m := by
 unfold upS
 split
 ·rename_i hu
  exact ⟨h.fs, h.fm, h.value, fun _ => h.back hu.1, fun e => by simp [Spc.returns] at e, h.len⟩
 ·exact h
theorem Q7w {p : Q00} {s : Spc} {m : Mach} {o : Bool} (h : s.fin = 0) (hm : Q32 p s m) :
  Q32 p (if s.ahead then (if o || decide (s.since + 1 = 12) then { s with since := s.since + 1 }.returns else { s with since := s.since + 1 }) else s) m := by
 split
 ·rename_i ha
  split
  ·exact ⟨h, hm.fm, hm.value, fun _ => hm.back ha, fun e => by simp [Spc.returns] at e, hm.len⟩
  ·exact ⟨h, hm.fm, hm.value, fun e => by simp [ha] at e, fun _ => hm.back ha, hm.len⟩
 ·exact hm
theorem Qae {p : Q00} {i : LIns} {s : Spc} {m : Mach} (h : Q32 p s m) (ha : s.ahead = true) : Q32 p (Q0d p i s) m := by
 have hk := Qee p i { s with steps := s.steps + 1, seen := s.seen ++ [⟨1, s.pl.at_, 0⟩] } ha
 refine Q7w (by rw [hk.fin]; exact h.fs) ⟨by rw [hk.fin]; exact h.fs, h.fm, by rw [hk.value]; exact h.value, fun e => by simp [hk.ahead] at e, fun _ => by rw [hk.back]; exact h.back ha, h.len⟩
theorem Qad {p : Q00} (hp : Q23 p = true) {i : LIns} {s : Spc} {m : Mach} (h : Q32 p s m) (ha : s.ahead = false) (hi : i ∈ p.code) :
  ((Q06 p i m).fin = 0 → Q32 p (Q0d p i s) (Q06 p i m)) ∧
   ((Q06 p i m).fin ≠ 0 → (Q0d p i s).fin = (Q06 p i m).fin ∧ (Q0d p i s).value = (Q06 p i m).value ∧ (Q0d p i s).ahead = false ∧ (Q0d p i s).pl.words = (Q06 p i m).words) := by
 have hl := Qag p i m
 obtain ⟨m1, e1, e2⟩ : ∃ m1 : Mach, m1.seen = s.seen ∧ m1 = { m with seen := s.seen } := ⟨{ m with seen := s.seen }, rfl, rfl⟩
 have hat := h.on ha
 have hd0 : Does (doS p i { s with steps := s.steps + 1, seen := s.seen ++ [⟨1, s.pl.at_, 0⟩] }) (Q06 p i m1) := by
  subst e2
  exact Qec p i _ _ hp hi ha h.fs hat h.fm h.value (by simp [hat.2.2]) h.len
 have em : (Q06 p i m1).regs = (Q06 p i m).regs ∧ (Q06 p i m1).words = (Q06 p i m).words ∧ (Q06 p i m1).at_ = (Q06 p i m).at_ ∧ (Q06 p i m1).fin = (Q06 p i m).fin ∧ (Q06 p i m1).value = (Q06 p i m).value := by
  subst e2
  simp only [Q06]
  repeat' split
  all_goals simp
 obtain ⟨f1, f2, f3, f4, f5⟩ := em
 obtain ⟨g1, g2, g3, g4, g5, g6⟩ := hd0
 unfold At at g4 g5
 rw [f1, f2, f3] at g4 g5
 rw [f4] at g1
 rw [f5] at g2
 rw [f2] at g6
 refine ⟨fun h0 => ?_, fun h0 => ?_⟩
 ·have hz : (doS p i { s with steps := s.steps + 1, seen := s.seen ++ [⟨1, s.pl.at_, 0⟩] }).fin = 0 := by rw [g1, h0]
  exact Q7w hz ⟨hz, h0, g2, fun e => g4 e hz, fun e => (g5 e).2, by rw [hl, h.len]⟩
 ·have hna : (doS p i { s with steps := s.steps + 1, seen := s.seen ++ [⟨1, s.pl.at_, 0⟩] }).ahead = false := by
   cases hc : (doS p i { s with steps := s.steps + 1, seen := s.seen ++ [⟨1, s.pl.at_, 0⟩] }).ahead
   ·rfl
   ·exact absurd ((g1.symm.trans (g5 hc).1)) h0
  simp only [Q0d, hna]
  exact ⟨g1, g2, hna, g6 (by rw [g1]; exact h0)⟩
theorem upS_none {p : Q00} {s : Spc} (h : p.code[(upS p s).pl.at_]? = none) : (upS p s).ahead = false := by
 unfold upS at h ⊢
 split
 ·rfl
 ·rename_i hn
  rw [if_neg hn] at h
  cases ha : s.ahead
  ·rfl
  ·exact absurd ⟨ha, List.getElem?_eq_none_iff.1 h⟩ hn
theorem Q4k {p : Q00} (hp : Q23 p = true) : ∀ (k : Nat) (s : Spc) (m : Mach), Q32 p s m → (runS p k s).fin ≠ 0 →
  ∃ j, j ≤ k ∧ (runM p j m).fin = (runS p k s).fin ∧ (runM p j m).value = (runS p k s).value ∧ (runM p j m).words = (endS (runS p k s)).pl.words
 | 0, s, m, h, hf => absurd h.fs hf
 | k + 1, s, m, h, hf => by
  have hu := Qcp h
  rw [runS, if_neg (by simp [h.fs])] at hf ⊢
  have hn := @upS_none p s
  generalize upS p s = s1 at *
  cases hc : p.code[s1.pl.at_]? with
  | none =>
   have ha := hn hc
   have hat := hu.on ha
   refine ⟨1, by omega, ?_⟩
   rw [runM, if_neg (by simp [hu.fm]), ← hat.2.2, hc]
   simp [endS, ha, hu.value, hat.2.1]
  | some i =>
   simp only [hc] at hf
   dsimp only
   have hi : i ∈ p.code := List.mem_of_getElem? hc
   cases ha : s1.ahead
   ·have hst := Qad hp hu ha hi
    have hat := (hu.on ha).2.2
    by_cases hz : (Q06 p i m).fin = 0
    ·obtain ⟨j, j1, j2, j3, j4⟩ := Q4k hp k _ _ (hst.1 hz) hf
     refine ⟨j + 1, by omega, ?_⟩
     rw [runM, if_neg (by simp [hu.fm]), ← hat, hc]
     exact ⟨j2, j3, j4⟩
    ·obtain ⟨b1, b2, b3, b4⟩ := hst.2 hz
     have hend : runS p k (Q0d p i s1) = Q0d p i s1 := by
      cases k with
      | zero => rfl
      | succ k => rw [runS, if_pos (by rw [b1]; exact hz)]
     refine ⟨1, by omega, ?_⟩
     rw [runM, if_neg (by simp [hu.fm]), ← hat, hc, hend]
     simp [runM, b1, b2, b4, endS, b3]
   ·obtain ⟨j, j1, j2⟩ := Q4k hp k _ _ (Qae hu ha) hf
    exact ⟨j, by omega, j2⟩
theorem Qbc {p : Q00} (hp : Q23 p = true) (ws script : List Int) (hl : ws.length = Q0r p) (k : Nat) (h : (runS p k (Q0s ws script)).fin ≠ 0) :
  (runM p k (Q01 ws)).fin = (runS p k (Q0s ws script)).fin ∧ (runM p k (Q01 ws)).value = (runS p k (Q0s ws script)).value ∧ (runM p k (Q01 ws)).words = (endS (runS p k (Q0s ws script))).pl.words := by
 obtain ⟨j, h1, h2, h3, h4⟩ := Q4k hp k (Q0s ws script) (Q01 ws) ⟨rfl, rfl, rfl, fun _ => ⟨rfl, rfl, rfl⟩, fun e => by simp [Q0s] at e, hl⟩ h
 obtain ⟨d, rfl⟩ : ∃ d, k = j + d := ⟨k - j, by omega⟩
 rw [Q87, Q58 (by rw [h2]; exact h)]
 exact ⟨h2, h3, h4⟩
theorem Qeb (p : Q00) (i : LIns) (s : Spc) : ∃ t, (doS p i s).seen = s.seen ++ t := by
 have htk : ∀ (n : Nat) (s : Spc), (Q18 i n s).seen = s.seen := by
  intro n s
  simp only [Q18]
  split <;> simp [Spc.goTo, Spc.chosen, Spc.put_]
 simp only [doS]
 split
 ·exact ⟨[], by simp [Spc.goTo]⟩
 split
 ·refine ⟨[], ?_⟩
  simp only [Q1i]
  split <;> simp [Spc.goTo, Spc.chosen]
 split
 ·refine ⟨[], ?_⟩
  split <;> simp [Spc.goTo]
 split
 ·exact ⟨[], by simp [Spc.goTo]⟩
 split
 ·simp only [Q17]
  split
  ·exact ⟨[], by simp⟩
  split
  ·split
   ·exact ⟨_, rfl⟩
   ·exact ⟨_, htk _ _⟩
  ·split
   ·exact ⟨_, rfl⟩
   ·exact ⟨_, rfl⟩
 ·exact ⟨_, rfl⟩
theorem Q7n (p : Q00) (i : LIns) (s : Spc) : ∃ t, (Q0d p i s).seen = s.seen ++ ⟨1, s.pl.at_, 0⟩ :: t := by
 obtain ⟨t, ht⟩ := Qeb p i { s with steps := s.steps + 1, seen := s.seen ++ [⟨1, s.pl.at_, 0⟩] }
 simp only [Q0d]
 split
 ·split
  ·exact ⟨t ++ [⟨4, 0, 0⟩], by simp [Spc.returns, ht]⟩
  ·exact ⟨t, by simp [ht]⟩
 ·exact ⟨t, by simp [ht]⟩
theorem Q85 (p : Q00) : ∀ (k : Nat) (s : Spc), ∃ t, (runS p k s).seen = s.seen ++ t
 | 0, s => ⟨[], by simp [runS]⟩
 | k + 1, s => by
  rw [runS]
  by_cases h : s.fin ≠ 0
  ·exact ⟨[], by rw [if_pos h]; simp⟩
  ·rw [if_neg h]
   obtain ⟨v, hv⟩ : ∃ v, (upS p s).seen = s.seen ++ v := by
    unfold upS
    split
    ·exact ⟨_, rfl⟩
    ·exact ⟨[], by simp⟩
   cases hc : p.code[(upS p s).pl.at_]? with
   | none => exact ⟨v, by simp [hv]⟩
   | some i =>
    obtain ⟨t, ht⟩ := Q7n p i (upS p s)
    obtain ⟨u, hu⟩ := Q85 p k (Q0d p i (upS p s))
    exact ⟨v ++ ⟨1, (upS p s).pl.at_, 0⟩ :: t ++ u, by dsimp only; rw [hu, ht, hv]; simp⟩
theorem Qb9 (p : Q00) (s : Spc) (hm : s.pl.at_ < p.code.length) (h0 : s.fin = 0) (hA : s.ahead = false) (k : Nat) (hk : 0 < k) : (runS p k s).seen ≠ [] := by
 obtain ⟨k, rfl⟩ : ∃ j, k = j + 1 := ⟨k - 1, by omega⟩
 have hu : upS p s = s := by unfold upS; rw [if_neg (by simp [hA])]
 rw [runS, if_neg (by simp [h0]), hu, List.getElem?_eq_getElem hm]
 obtain ⟨t, ht⟩ := Q7n p p.code[s.pl.at_] s
 obtain ⟨u, hu⟩ := Q85 p k (Q0d p p.code[s.pl.at_] s)
 simp only []
 rw [hu, ht]
 simp
section
variable {p : Q00} {C : Int → Prop} {IN IA : Plc → Plc → Prop} {End : List Int → List Int → Prop} {s t : Spc}
end
end Go.Proofs.Ytalpnmjaafcpoaa

namespace Go.Proofs.Ytalpnmjaafcpoaa
set_option linter.unusedVariables false
set_option linter.unusedSimpArgs false
def Fin3 (x : Int) : Prop := x = 0 ∨ x = 1 ∨ x = 2
theorem Qed (p : Q00) (i : LIns) (s : Spc) (h : Fin3 s.fin) : Fin3 (doS p i s).fin := by
 unfold doS
 split
 ·exact h
 split
 ·unfold Q1i
  dsimp only
  split
  ·exact h
  ·simp only [Spc.goTo, Q96, Spc.chosen]; exact h
 split
 ·split
  ·exact h
  ·exact .inr (.inl rfl)
 split
 ·exact h
 split
 ·unfold Q17
  dsimp only
  split
  ·exact .inr (.inr rfl)
  ·split
   ·split
    ·exact h
    ·unfold Q18
     dsimp only
     split
     ·simp only [Spc.put_, Q96, Spc.chosen, Spc.goTo]; exact h
     ·exact h
   ·split
    ·exact h
    ·exact h
 ·exact h
theorem Qaf (p : Q00) (i : LIns) (s : Spc) (h : Fin3 s.fin) : Fin3 (Q0d p i s).fin := by
 have h1 := Qed p i { s with steps := s.steps + 1, seen := s.seen ++ [⟨1, s.pl.at_, 0⟩] } h
 unfold Q0d
 dsimp only
 split
 ·split
  ·exact h1
  ·exact h1
 ·exact h1
theorem Q9x (p : Q00) (s : Spc) : (upS p s).fin = s.fin := by unfold upS; split <;> rfl
theorem Q86 (p : Q00) : ∀ (k : Nat) (s : Spc), Fin3 s.fin → Fin3 (runS p k s).fin
 | 0, s, h => h
 | k + 1, s, h => by
  rw [runS]
  split
  ·exact h
  ·split
   ·exact .inr (.inr rfl)
   ·exact Q86 p k _ (Qaf p _ _ (by rw [Q9x]; exact h))
theorem Q83 (p : Q00) : ∀ (k : Nat) (s : Spc), (runS p k s).fin = 0 → (runS p k s).steps = s.steps + k
 | 0, s, h => rfl
 | k + 1, s, h => by
  rw [runS] at h ⊢
  by_cases hf : s.fin ≠ 0
  ·rw [if_pos hf] at h
   exact absurd h hf
  ·rw [if_neg hf] at h ⊢
   cases hc : p.code[(upS p s).pl.at_]? with
   | none =>
    rw [hc] at h
    simp at h
   | some i =>
    rw [hc] at h
    simp only [] at h ⊢
    rw [Q83 p k _ h, Q4h, (Q61 p s).1]
    omega
theorem Q84 (p : Q00) : ∀ (k : Nat) (s : Spc), (runS p k s).steps ≤ s.steps + k
 | 0, s => Nat.le_refl _
 | k + 1, s => by
  rw [runS]
  by_cases hf : s.fin ≠ 0
  ·rw [if_pos hf]
   omega
  ·rw [if_neg hf]
   cases hc : p.code[(upS p s).pl.at_]? with
   | none =>
    show (upS p s).steps ≤ _
    rw [(Q61 p s).1]
    omega
   | some i =>
    have h := Q84 p k (Q0d p i (upS p s))
    rw [Q4h, (Q61 p s).1] at h
    show (runS p k (Q0d p i (upS p s))).steps ≤ _
    omega
theorem Qe9 (s : Spc) : (endS s).seen = s.seen ∧ (endS s).fin = s.fin ∧ (endS s).value = s.value ∧ (endS s).steps = s.steps := by
 unfold endS
 split <;> exact ⟨rfl, rfl, rfl, rfl⟩
end Go.Proofs.Ytalpnmjaafcpoaa
