/- Laid together from: NumP, Sem, SemL, Flat, SpecL, Quiet, SpP, FdP. -/
import Derived.WalkKit
import Derived.Laws.BitsAllLaws
import Derived.Laws.BitsLemmas
import Derived.Test.YtceocimckkgaoaaFindSameB1

namespace Go.Proofs.Ytceocimckkgaoaa
open Go.RowKit
def u64 (n : Int) : Int := n % 18446744073709551616
def sh (b : Int) : Nat := (b % 64).toNat
def nop (op a b : Int) : Int :=
 if op = 1 then wrap64 (a + b) else if op = 2 then wrap64 (a - b) else if op = 3 then wrap64 (a * b)
 else if op = 4 then bits .and .i64 a b else if op = 5 then bits .or .i64 a b else if op = 6 then bits .xor .i64 a b
 else if op = 7 then wrap64 (u64 a * 2 ^ sh b) else if op = 8 then wrap64 (u64 a / 2 ^ sh b)
 else if op = 9 then (if u64 b = 0 then 0 else wrap64 (u64 a / u64 b))
 else if op = 10 then (if u64 b = 0 then a else wrap64 (u64 a % u64 b)) else 0
def Q4f (c a b : Int) : Bool :=
 (c == 1 && a == b) || (c == 2 && a != b) || (c == 3 && decide (u64 a < u64 b)) || (c == 4 && !decide (u64 a < u64 b))
theorem Q8o (n : Int) : IntKind.i64.wrap n = wrap64 n := IntWalk.i64_left n
theorem Q47 (n : Int) : IntKind.u64.wrap n = u64 n := by rw [IntKind.wrap_u64]; rfl
theorem Q71 (n : Int) : 0 ≤ u64 n := by unfold u64; omega
theorem Qa7 (b : Int) : sh b < 64 := by unfold sh; omega
theorem Q6s (b : Int) : bits .and .u64 (IntKind.u64.wrap b) 63 = (sh b : Int) := by
 show IntKind.u64.wrap ((BitVec.ofInt 64 (IntKind.u64.wrap b) &&& BitVec.ofInt 64 63).toNat : Int) = _
 rw [BitVec.toNat_and, IntKind.wrap_u64, IntKind.wrap_u64]
 have h63 : (BitVec.ofInt 64 63).toNat = 2 ^ 6 - 1 := by decide
 rw [h63, Nat.and_two_pow_sub_one_eq_mod, BitVec.toNat_ofInt]
 unfold sh
 omega
theorem and63' (b : Int) : bits .and .u64 (u64 b) 63 = (sh b : Int) := by rw [← Q47]; exact Q6s b
theorem Qa6 (b : Int) : min (sh b) 64 = sh b := Nat.min_eq_left (Nat.le_of_lt (Qa7 b))
theorem Q92 (x : Int) : wrap64 (IntKind.u64.wrap x) = wrap64 x := by rw [IntKind.wrap_u64]; unfold wrap64; omega
theorem Q9h (a b : Int) : (u64 a).tdiv (u64 b) = u64 a / u64 b := Int.tdiv_eq_ediv_of_nonneg (Q71 a)
theorem Q9g (a b : Int) : (u64 a).tmod (u64 b) = u64 a % u64 b := Int.tmod_eq_emod_of_nonneg (Q71 a)
structure LSee where
 kind : Int
 a : Int
 b : Int
 deriving DecidableEq, Inhabited
def rg (r : List Int) (i : Int) : Int := r.getD i.toNat 0
def rset (r : List Int) (i v : Int) : List Int := r.set i.toNat v
def Q07 (p : Q00) (r : Nat) : Nat := ((p.regs.take r).map Q09).sum
def Q0y (p : Q00) : Nat := (p.regs.map Q09).sum
def Qau (p : Q00) (i : LIns) : LReg := p.regs.getD i.c.toNat default
def Q0x (i : LIns) : Bool := decide (i.op = 4) || decide (i.op = 6)
def Q1m (i : LIns) : Bool := decide (i.op = 3) || decide (i.op = 5)
def putN (i : LIns) : Int := if Q0x i then 1 else 0
def Q1n (r : List Int) (i : LIns) : Int := if i.op = 5 ∨ i.op = 6 then i.n else wrap64 (rg r i.b + i.n)
def Q37 (p : Q00) (i : LIns) (x : Int) : Bool := decide (0 ≤ x) && decide (x < (Q09 (Qau p i) : Nat))
def Q13 (r : List Int) (i : LIns) : List Int :=
 if i.op = 1 then rset r i.a i.n
 else if i.op = 2 then rset r i.a (rg r i.b)
 else if i.op = 10 then rset r i.a (wrap64 (rg r i.b + i.n))
 else if i.op = 11 then (if rg r i.a < 0 ∨ i.n ≤ rg r i.a then rset r i.a 0 else r)
 else if i.op = 12 then r
 else rset r i.a (nop (i.op - 20) (rg r i.b) (rg r i.c))
def Q1a (r : List Int) (i : LIns) : List LSee := if i.op = 29 ∨ i.op = 30 then [⟨3, rg r i.b, rg r i.c⟩] else []
structure Mach where
 regs : List Int
 words : List Int
 at_ : Nat
 fin : Int
 value : Int
 steps : Nat
 seen : List LSee
 deriving DecidableEq, Inhabited
def Q04 (ws : List Int) : Mach := ⟨List.replicate 10 0, ws, 0, 0, 0, 0, []⟩
def Q79 (p : Q00) (i : LIns) (m : Mach) : Mach :=
 let s := m.seen ++ [⟨1, m.at_, 0⟩]
 let k := m.steps + 1
 if i.op = 7 then { m with at_ := i.n.toNat, steps := k, seen := s }
 else if i.op = 8 then { m with at_ := (if Q4f i.c (rg m.regs i.a) (rg m.regs i.b) then i.n.toNat else m.at_ + 1), steps := k, seen := s }
 else if i.op = 9 then { m with at_ := m.at_ + 1, steps := k, seen := s, fin := 1, value := rg m.regs i.a }
 else if Q0x i || Q1m i then
  let x := Q1n m.regs i
  if Q37 p i x then
   let n := Q07 p i.c.toNat + x.toNat
   let s' := s ++ [⟨2, n, putN i⟩]
   if Q0x i then { m with at_ := m.at_ + 1, steps := k, seen := s', words := m.words.set n (rg m.regs i.a) }
   else { m with at_ := m.at_ + 1, steps := k, seen := s', regs := rset m.regs i.a (m.words.getD n 0) }
  else { m with at_ := m.at_ + 1, steps := k, seen := s, fin := 2 }
 else { m with at_ := m.at_ + 1, steps := k, seen := s ++ Q1a m.regs i, regs := Q13 m.regs i }
structure Plc where
 regs : List Int
 words : List Int
 past : List (List Int)
 at_ : Nat
 deriving DecidableEq, Inhabited
structure Spc where
 pl : Plc
 fin : Int
 value : Int
 steps : Nat
 seen : List LSee
 script : List Int
 ahead : Bool
 since : Int
 back : Plc
 deriving DecidableEq, Inhabited
def Q0p (ws script : List Int) : Spc := ⟨⟨List.replicate 10 0, ws, List.replicate ws.length [], 0⟩, 0, 0, 0, [], script, false, 0, ⟨[], [], [], 0⟩⟩
def Spc.choice (s : Spc) : Int := s.script.headD 0
def Spc.chosen (s : Spc) : Spc := { s with script := s.script.tail }
def Spc.leave (s : Spc) : Spc := if s.ahead then s else { s with ahead := true, since := -1, back := s.pl }
def Spc.returns (s : Spc) : Spc := { s with seen := s.seen ++ [⟨4, 0, 0⟩], ahead := false, pl := s.back }
def Spc.goTo (s : Spc) (k : Nat) : Spc := { s with pl := { s.pl with at_ := k } }
def Spc.put_ (s : Spc) (a v : Int) : Spc := { s with pl := { s.pl with regs := rset s.pl.regs a v } }
def Q1t (i : LIns) (s : Spc) : Spc :=
 let h := Q4f i.c (rg s.pl.regs i.a) (rg s.pl.regs i.b)
 let right := if h then i.n.toNat else s.pl.at_ + 1
 let wrong := if h then s.pl.at_ + 1 else i.n.toNat
 let s1 := (s.goTo right).chosen
 if s.choice = 0 then s1 else s1.leave.goTo wrong
def Q1f (i : LIns) (n : Nat) (s : Spc) : Spc :=
 let l := s.pl.past.getD n []
 let c := s.choice
 let s1 := ((s.goTo (s.pl.at_ + 1)).chosen).put_ i.a (s.pl.words.getD n 0)
 if 0 < c ∧ c ≤ l.length then s1.leave.put_ i.a (l.getD (l.length - c.toNat) 0) else s1
def Q16 (p : Q00) (i : LIns) (s : Spc) : Spc :=
 let x := Q1n s.pl.regs i
 if !Q37 p i x && !s.ahead then { s with fin := 2 }
 else
  let n := wrap64 (Q07 p i.c.toNat + x)
  let s1 := { s with seen := s.seen ++ [⟨2, n, putN i⟩] }
  if 0 ≤ n ∧ n < s.pl.words.length then
   if Q0x i then { s1 with pl := { s1.pl with at_ := s1.pl.at_ + 1, past := s1.pl.past.set n.toNat (s1.pl.past.getD n.toNat [] ++ [s1.pl.words.getD n.toNat 0]), words := s1.pl.words.set n.toNat (rg s1.pl.regs i.a) } }
   else Q1f i n.toNat s1
  else
   let s2 := s1.goTo (s1.pl.at_ + 1)
   if Q0x i then s2 else s2.put_ i.a 0
def doS (p : Q00) (i : LIns) (s : Spc) : Spc :=
 if i.op = 7 then s.goTo i.n.toNat
 else if i.op = 8 then Q1t i s
 else if i.op = 9 then (if s.ahead then s.goTo (s.pl.at_ + 1) else { s with fin := 1, value := rg s.pl.regs i.a })
 else if i.op = 12 then s.goTo (s.pl.at_ + 1)
 else if Q0x i || Q1m i then Q16 p i s
 else { s with seen := s.seen ++ Q1a s.pl.regs i, pl := { s.pl with regs := Q13 s.pl.regs i, at_ := s.pl.at_ + 1 } }
def Q1k (i : LIns) (s : Spc) : Bool := (decide (i.op = 9) && s.ahead) || decide (i.op = 12)
def Q0o (p : Q00) (i : LIns) (s : Spc) : Spc :=
 let s0 := { s with steps := s.steps + 1, seen := s.seen ++ [⟨1, s.pl.at_, 0⟩] }
 let s1 := doS p i s0
 if s1.ahead then
  let s2 := { s1 with since := s1.since + 1 }
  if Q1k i s || decide (s2.since = 12) then s2.returns else s2
 else s1
def upS (p : Q00) (s : Spc) : Spc := if s.ahead ∧ p.code.length ≤ s.pl.at_ then s.returns else s
def runS (p : Q00) : Nat → Spc → Spc
 | 0, s => s
 | k + 1, s =>
  if s.fin ≠ 0 then s
  else match p.code[(upS p s).pl.at_]? with
   | none => { upS p s with fin := 2 }
   | some i => runS p k (Q0o p i (upS p s))
def endS (s : Spc) : Spc := if s.ahead then { s with pl := s.back } else s
theorem Q75 (l : List Nat) : ∀ k : Nat, (l.take k).sum ≤ l.sum := by
 induction l with
 | nil => intro k; simp
 | cons a l ih =>
  intro k
  cases k with
  | zero => simp
  | succ k => have := ih k; simp; omega
theorem Q74 (l : List Nat) : ∀ k : Nat, k < l.length → (l.take (k + 1)).sum = (l.take k).sum + l.getD k 0 := by
 induction l with
 | nil => intro k hk; simp at hk
 | cons a l ih =>
  intro k hk
  cases k with
  | zero => simp
  | succ k =>
   have := ih k (by simpa using hk)
   simp only [List.take_succ_cons, List.sum_cons, List.getD_cons_succ]
   omega
theorem Q6q (p : Q00) (r : Nat) (hr : r < p.regs.length) : Q07 p r + Q09 (p.regs.getD r default) ≤ Q0y p := by
 have h1 := Q74 (p.regs.map Q09) r (by simpa using hr)
 have h2 := Q75 (p.regs.map Q09) (r + 1)
 unfold Q07 Q0y
 rw [← List.map_take] at h1
 have : (List.map Q09 p.regs).getD r 0 = Q09 (p.regs.getD r default) := by simp [hr]
 rw [this, List.map_take] at h1
 rw [List.map_take]
 omega
theorem Q9q (l : List Nat) (n : Nat) (h : ∀ x ∈ l, x ≤ n) : l.sum ≤ l.length * n := by
 induction l with
 | nil => simp
 | cons a l ih =>
  have h1 := h a (by simp)
  have h2 := ih fun x hx => h x (by simp [hx])
  simp only [List.sum_cons, List.length_cons, Nat.succ_mul]
  omega
theorem Q4o (r : LReg) (h : r.log ≤ 6) : Q09 r ≤ 64 := by
 unfold Q09
 exact Nat.le_trans (Nat.pow_le_pow_right (by omega) (show r.log.toNat ≤ 6 by omega)) (by decide)
theorem Q97 (r : LReg) : 0 < Q09 r := Nat.two_pow_pos _
theorem Q4x {l : List LReg} (h : Q0l l = true) : ∀ r ∈ l, 0 ≤ r.log ∧ r.log ≤ 6 := by
 intro r hr
 simp only [Q0l, Bool.and_eq_true, List.all_eq_true] at h
 have := h.1 r hr
 simpa [Q24] using this
theorem Q4b {l : List LReg} (h : Q0l l = true) : l.length ≤ 6 := by
 simp only [Q0l, Bool.and_eq_true, decide_eq_true_eq] at h
 exact h.2
theorem Q4p {p : Q00} (h : Q0l p.regs = true) : Q0y p ≤ 384 := by
 have h1 := Q9q (p.regs.map Q09) 64 fun x hx => by
  simp only [List.mem_map] at hx
  obtain ⟨r, hr, rfl⟩ := hx
  exact Q4o r (Q4x h r hr).2
 have h2 := Q4b h
 unfold Q0y
 simp only [List.length_map] at h1
 omega
theorem Qe7 (p : Q00) (r : Nat) : Q07 p r ≤ Q0y p := by
 have := Q75 (p.regs.map Q09) r
 rw [← List.map_take] at this
 exact this
theorem Q4i {p : Q00} (h : Q2w p = true) : Q0l p.regs = true ∧ 1 ≤ p.code.length ∧ p.code.length ≤ 8000 ∧ ∀ i ∈ p.code, Q03 p 10 i = true := by
 simp only [Q2w, Q4d, Bool.and_eq_true, decide_eq_true_eq, List.all_eq_true] at h
 exact ⟨h.1.1.1, h.1.1.2, by have := h.1.2; omega, h.2⟩
theorem Qar {p : Q00} {R : Int} {i : LIns} (k : Q03 p R i = true) (hw : (Q0x i || Q1m i) = true) : 0 ≤ i.c ∧ i.c.toNat < p.regs.length := by
 simp only [Q0x, Q1m, Bool.or_eq_true, decide_eq_true_eq] at hw
 have hop : i.op = 3 ∨ i.op = 4 ∨ i.op = 5 ∨ i.op = 6 := by omega
 simp only [Q03] at k
 rcases hop with h | h | h | h <;> simp [h, okIn] at k <;> omega
section
variable (s : Spc)
@[simp] theorem Qel : s.leave.steps = s.steps := by unfold Spc.leave; split <;> rfl
@[simp] theorem Q8l : s.leave.fin = s.fin := by unfold Spc.leave; split <;> rfl
@[simp] theorem Qek : s.leave.value = s.value := by unfold Spc.leave; split <;> rfl
@[simp] theorem Q8k : s.leave.seen = s.seen := by unfold Spc.leave; split <;> rfl
@[simp] theorem Qen : s.leave.script = s.script := by unfold Spc.leave; split <;> rfl
@[simp] theorem Qeo : s.leave.pl = s.pl := by unfold Spc.leave; split <;> rfl
@[simp] theorem Qeq : s.leave.ahead = true := by unfold Spc.leave; split <;> simp_all
@[simp] theorem Qep : s.leave.back = if s.ahead then s.back else s.pl := by unfold Spc.leave; split <;> rfl
@[simp] theorem Qem : s.leave.since = if s.ahead then s.since else -1 := by unfold Spc.leave; split <;> rfl
end
theorem Qe2 (i : LIns) (s : Spc) : (Q1t i s).steps = s.steps := by
 simp only [Q1t]
 split <;> simp [Spc.goTo, Spc.chosen]
theorem Q9p (i : LIns) (n : Nat) (s : Spc) : (Q1f i n s).steps = s.steps := by
 simp only [Q1f]
 split <;> simp [Spc.goTo, Spc.chosen, Spc.put_]
theorem Q9b (p : Q00) (i : LIns) (s : Spc) : (Q16 p i s).steps = s.steps := by
 simp only [Q16]
 repeat' split
 all_goals simp [Q9p, Spc.goTo, Spc.put_]
theorem Q8v (p : Q00) (i : LIns) (s : Spc) : (doS p i s).steps = s.steps := by
 simp only [doS]
 repeat' split
 all_goals simp [Q9b, Qe2, Spc.goTo]
theorem Q4r (p : Q00) (i : LIns) (s : Spc) : (Q0o p i s).steps = s.steps + 1 := by
 simp only [Q0o, Spc.returns]
 repeat' split
 all_goals simp [Q8v]
theorem Q70 (p : Q00) (s : Spc) : (upS p s).steps = s.steps ∧ (upS p s).fin = s.fin ∧ (upS p s).value = s.value ∧ (upS p s).script = s.script := by
 unfold upS
 split <;> simp [Spc.returns]
end Go.Proofs.Ytceocimckkgaoaa

namespace Go.Proofs.Ytceocimckkgaoaa
open Go.RowKit
set_option linter.unusedSimpArgs false
set_option linter.unusedVariables false
def Q0j (p : Q00) (ws : List Int) : List (List Int) := (List.range p.regs.length).map fun k => (ws.drop (Q07 p k)).take (Q09 (p.regs.getD k default))
theorem Q5o (p : Q00) (ws : List Int) : (Q0j p ws).length = p.regs.length := by simp [Q0j]
theorem Q7b {p : Q00} (ws : List Int) {k : Nat} (hk : k < p.regs.length) : (Q0j p ws).getD k default = (ws.drop (Q07 p k)).take (Q09 (p.regs.getD k default)) := by
 simp [Q0j, hk]
theorem Qe5 (p : Q00) : Q07 p 0 = 0 := by simp [Q07]
theorem Qe6 (p : Q00) {k : Nat} (hk : k < p.regs.length) : Q07 p (k + 1) = Q07 p k + Q09 (p.regs.getD k default) := by
 unfold Q07
 rw [List.map_take, List.map_take, Q74 _ k (by simpa using hk)]
 simp [hk]
theorem Qe8 (p : Q00) {k : Nat} (hk : p.regs.length ≤ k) : Q07 p k = Q0y p := by
 unfold Q07 Q0y
 rw [List.take_of_length_le hk]
theorem Q9y {p : Q00} {ws : List Int} (hl : ws.length = Q0y p) {k : Nat} (hk : k < p.regs.length) : ((Q0j p ws).getD k default).length = Q09 (p.regs.getD k default) := by
 rw [Q7b ws hk, List.length_take, List.length_drop]
 have := Q6q p k hk
 omega
theorem Q6h {p : Q00} {m : List (List Int)} (h : Q2e p m = true) : m.length = p.regs.length ∧ ∀ k, k < p.regs.length → (m.getD k default).length = Q09 (p.regs.getD k default) := by
 simp only [Q2e, Bool.and_eq_true, decide_eq_true_eq, List.all_eq_true, List.mem_range] at h
 exact ⟨h.1.2, h.2⟩
theorem Q8r {p : Q00} {m : List (List Int)} (h : Q2e p m = true) : ∀ k, k ≤ p.regs.length → (m.take k).flatten.length = Q07 p k := by
 obtain ⟨h1, h2⟩ := Q6h h
 intro k
 induction k with
 | zero => intro _; simp [Qe5]
 | succ k ih =>
  intro hk
  rw [List.take_succ_eq_append_getElem (by omega), List.flatten_append, List.length_append, ih (by omega), Qe6 p (by omega), ← h2 k (by omega)]
  simp [show k < m.length by omega]
theorem Q8q {p : Q00} {m : List (List Int)} (h : Q2e p m = true) : m.flatten.length = Q0y p := by
 have := Q8r h p.regs.length (Nat.le_refl _)
 rw [Qe8 p (Nat.le_refl _), List.take_of_length_le (by have := (Q6h h).1; omega)] at this
 exact this
theorem Q98 (p : Q00) (ws : List Int) (P : Int → Prop) (h : ∀ x ∈ ws, P x) : ∀ l ∈ Q0j p ws, ∀ x ∈ l, P x := by
 intro l hl x hx
 simp only [Q0j, List.mem_map, List.mem_range] at hl
 obtain ⟨k, _, rfl⟩ := hl
 exact h x (List.mem_of_mem_drop (List.mem_of_mem_take hx))
theorem Qdt (p : Q00) (i : LIns) (s : Spc) : ∃ t, (doS p i s).seen = s.seen ++ t := by
 have htk : ∀ (n : Nat) (s : Spc), (Q1f i n s).seen = s.seen := by
  intro n s
  simp only [Q1f]
  split <;> simp [Spc.goTo, Spc.chosen, Spc.put_]
 simp only [doS]
 split
 ·exact ⟨[], by simp [Spc.goTo]⟩
 split
 ·refine ⟨[], ?_⟩
  simp only [Q1t]
  split <;> simp [Spc.goTo, Spc.chosen]
 split
 ·refine ⟨[], ?_⟩
  split <;> simp [Spc.goTo]
 split
 ·exact ⟨[], by simp [Spc.goTo]⟩
 split
 ·simp only [Q16]
  split
  ·exact ⟨[], by simp⟩
  split
  ·split
   ·exact ⟨_, rfl⟩
   ·exact ⟨_, htk _ _⟩
  ·split
   ·exact ⟨_, rfl⟩
   ·exact ⟨_, rfl⟩
 ·exact ⟨_, rfl⟩
theorem Q77 (p : Q00) (i : LIns) (s : Spc) : ∃ t, (Q0o p i s).seen = s.seen ++ ⟨1, s.pl.at_, 0⟩ :: t := by
 obtain ⟨t, ht⟩ := Qdt p i { s with steps := s.steps + 1, seen := s.seen ++ [⟨1, s.pl.at_, 0⟩] }
 simp only [Q0o]
 split
 ·split
  ·exact ⟨t ++ [⟨4, 0, 0⟩], by simp [Spc.returns, ht]⟩
  ·exact ⟨t, by simp [ht]⟩
 ·exact ⟨t, by simp [ht]⟩
theorem Q7o (p : Q00) : ∀ (k : Nat) (s : Spc), ∃ t, (runS p k s).seen = s.seen ++ t
 | 0, s => ⟨[], by simp [runS]⟩
 | k + 1, s => by
  rw [runS]
  by_cases h : s.fin ≠ 0
  ·exact ⟨[], by rw [if_pos h]; simp⟩
  ·rw [if_neg h]
   obtain ⟨v, hv⟩ : ∃ v, (upS p s).seen = s.seen ++ v := by
    unfold upS
    split
    ·exact ⟨_, rfl⟩
    ·exact ⟨[], by simp⟩
   cases hc : p.code[(upS p s).pl.at_]? with
   | none => exact ⟨v, by simp [hv]⟩
   | some i =>
    obtain ⟨t, ht⟩ := Q77 p i (upS p s)
    obtain ⟨u, hu⟩ := Q7o p k (Q0o p i (upS p s))
    exact ⟨v ++ ⟨1, (upS p s).pl.at_, 0⟩ :: t ++ u, by dsimp only; rw [hu, ht, hv]; simp⟩
theorem Qak (p : Q00) (s : Spc) (hm : s.pl.at_ < p.code.length) (h0 : s.fin = 0) (hA : s.ahead = false) (k : Nat) (hk : 0 < k) : (runS p k s).seen ≠ [] := by
 obtain ⟨k, rfl⟩ : ∃ j, k = j + 1 := ⟨k - 1, by omega⟩
 have hu : upS p s = s := by unfold upS; rw [if_neg (by simp [hA])]
 rw [runS, if_neg (by simp [h0]), hu, List.getElem?_eq_getElem hm]
 obtain ⟨t, ht⟩ := Q77 p p.code[s.pl.at_] s
 obtain ⟨u, hu⟩ := Q7o p k (Q0o p p.code[s.pl.at_] s)
 simp only []
 rw [hu, ht]
 simp
section
variable {p : Q00} {C : Int → Prop} {IN IA : Plc → Plc → Prop} {End : List Int → List Int → Prop} {s t : Spc}
end
end Go.Proofs.Ytceocimckkgaoaa

namespace Go.Proofs.Ytceocimckkgaoaa
set_option linter.unusedVariables false
set_option linter.unusedSimpArgs false
def Fin3 (x : Int) : Prop := x = 0 ∨ x = 1 ∨ x = 2
theorem Qdu (p : Q00) (i : LIns) (s : Spc) (h : Fin3 s.fin) : Fin3 (doS p i s).fin := by
 unfold doS
 split
 ·exact h
 split
 ·unfold Q1t
  dsimp only
  split
  ·exact h
  ·simp only [Spc.goTo, Q8l, Spc.chosen]; exact h
 split
 ·split
  ·exact h
  ·exact .inr (.inl rfl)
 split
 ·exact h
 split
 ·unfold Q16
  dsimp only
  split
  ·exact .inr (.inr rfl)
  ·split
   ·split
    ·exact h
    ·unfold Q1f
     dsimp only
     split
     ·simp only [Spc.put_, Q8l, Spc.chosen, Spc.goTo]; exact h
     ·exact h
   ·split
    ·exact h
    ·exact h
 ·exact h
theorem Q9r (p : Q00) (i : LIns) (s : Spc) (h : Fin3 s.fin) : Fin3 (Q0o p i s).fin := by
 have h1 := Qdu p i { s with steps := s.steps + 1, seen := s.seen ++ [⟨1, s.pl.at_, 0⟩] } h
 unfold Q0o
 dsimp only
 split
 ·split
  ·exact h1
  ·exact h1
 ·exact h1
theorem Q9f (p : Q00) (s : Spc) : (upS p s).fin = s.fin := by unfold upS; split <;> rfl
theorem Q7p (p : Q00) : ∀ (k : Nat) (s : Spc), Fin3 s.fin → Fin3 (runS p k s).fin
 | 0, s, h => h
 | k + 1, s, h => by
  rw [runS]
  split
  ·exact h
  ·split
   ·exact .inr (.inr rfl)
   ·exact Q7p p k _ (Q9r p _ _ (by rw [Q9f]; exact h))
theorem Q7n (p : Q00) : ∀ (k : Nat) (s : Spc), (runS p k s).steps ≤ s.steps + k
 | 0, s => Nat.le_refl _
 | k + 1, s => by
  rw [runS]
  by_cases hf : s.fin ≠ 0
  ·rw [if_pos hf]
   omega
  ·rw [if_neg hf]
   cases hc : p.code[(upS p s).pl.at_]? with
   | none =>
    show (upS p s).steps ≤ _
    rw [(Q70 p s).1]
    omega
   | some i =>
    have h := Q7n p k (Q0o p i (upS p s))
    rw [Q4r, (Q70 p s).1] at h
    show (runS p k (Q0o p i (upS p s))).steps ≤ _
    omega
theorem Qdq (s : Spc) : (endS s).seen = s.seen ∧ (endS s).fin = s.fin ∧ (endS s).value = s.value ∧ (endS s).steps = s.steps := by
 unfold endS
 split <;> exact ⟨rfl, rfl, rfl, rfl⟩
def Q2l : List LSee → List LSee → Nat
 | a :: x, b :: y => if a = b then Q2l x y + 1 else 0
 | _, _ => 0
theorem Q6k : ∀ (x y : List LSee) (k : Nat), k ≤ x.length → k ≤ y.length → (∀ j, j < k → x.getD j default = y.getD j default) → (k = x.length ∨ k = y.length ∨ x.getD k default ≠ y.getD k default) → Q2l x y = k
 | [], y, k, h1, h2, he, h3 => by
  have : k = 0 := by simpa using h1
  subst this
  rfl
 | a :: x, [], k, h1, h2, he, h3 => by
  have : k = 0 := by simpa using h2
  subst this
  rfl
 | a :: x, b :: y, 0, h1, h2, he, h3 => by
  have hne : a ≠ b := by
   rcases h3 with h | h | h
   ·simp at h
   ·simp at h
   ·simpa using h
  rw [Q2l, if_neg hne]
 | a :: x, b :: y, k + 1, h1, h2, he, h3 => by
  have hab : a = b := by simpa using he 0 (by omega)
  rw [Q2l, if_pos hab, Q6k x y k (by simpa using h1) (by simpa using h2) (fun j hj => by simpa using he (j + 1) (by omega)) (by
   rcases h3 with h | h | h
   ·left; simpa using h
   ·right; left; simpa using h
   ·right; right; simpa using h)]
def Q2x (x y : List LSee) : Bool := decide (Q2l x y < x.length ∨ Q2l x y < y.length)
def Q3x (x y : List LSee) : Int := if Q2x x y then (Q2l x y : Int) else 0
theorem Qdh {x y : List LSee} {k : Nat} (h1 : k ≤ x.length) (h2 : k ≤ y.length) (he : ∀ j, j < k → x.getD j default = y.getD j default) (h3 : k = x.length ∨ k = y.length ∨ x.getD k default ≠ y.getD k default) (h4 : k < x.length ∨ k < y.length) :
  Q2x x y = true ∧ Q3x x y = k := by
 have hd := Q6k x y k h1 h2 he h3
 have hb : Q2x x y = true := by unfold Q2x; rw [hd]; simpa using h4
 refine ⟨hb, ?_⟩
 unfold Q3x
 rw [hb, hd]
 rfl
theorem Q8p {x y : List LSee} {k : Nat} (h1 : k = x.length) (h2 : k = y.length) (he : ∀ j, j < k → x.getD j default = y.getD j default) : Q2x x y = false ∧ Q3x x y = 0 := by
 have hd := Q6k x y k (by omega) (by omega) he (.inl h1)
 have hb : Q2x x y = false := by
  unfold Q2x
  rw [hd]
  simp
  omega
 refine ⟨hb, ?_⟩
 unfold Q3x
 rw [hb]
 rfl
theorem Qdg (x : List LSee) : Q2x x x = false ∧ Q3x x x = 0 := Q8p rfl rfl (fun _ _ => rfl)
end Go.Proofs.Ytceocimckkgaoaa
