/- Laid together from: NumP, Sem, SemL, Flat, SpecL, Quiet. -/
import Derived.WalkKit
import Derived.Laws.BitsAllLaws
import Derived.Laws.BitsLemmas
import Derived.Test.YteiknefajlocoaaSpecRunsB1

namespace Go.Proofs.Yteiknefajlocoaa
open Go.RowKit
def u64 (n : Int) : Int := n % 18446744073709551616
def sh (b : Int) : Nat := (b % 64).toNat
def nop (op a b : Int) : Int :=
 if op = 1 then wrap64 (a + b) else if op = 2 then wrap64 (a - b) else if op = 3 then wrap64 (a * b)
 else if op = 4 then bits .and .i64 a b else if op = 5 then bits .or .i64 a b else if op = 6 then bits .xor .i64 a b
 else if op = 7 then wrap64 (u64 a * 2 ^ sh b) else if op = 8 then wrap64 (u64 a / 2 ^ sh b)
 else if op = 9 then (if u64 b = 0 then 0 else wrap64 (u64 a / u64 b))
 else if op = 10 then (if u64 b = 0 then a else wrap64 (u64 a % u64 b)) else 0
def Q40 (c a b : Int) : Bool :=
 (c == 1 && a == b) || (c == 2 && a != b) || (c == 3 && decide (u64 a < u64 b)) || (c == 4 && !decide (u64 a < u64 b))
theorem Q5y (n : Int) : IntKind.i64.wrap n = wrap64 n := IntWalk.i64_left n
theorem Q5k (n : Int) : IntKind.u64.wrap n = u64 n := by rw [IntKind.wrap_u64]; rfl
theorem Q4w (n : Int) : 0 ≤ u64 n := by unfold u64; omega
theorem Q76 (n : Int) : u64 n < 18446744073709551616 := by unfold u64; omega
theorem Q9h (b : Int) : sh b < 64 := by unfold sh; omega
theorem Q8r (b : Int) : bits .and .u64 (IntKind.u64.wrap b) 63 = (sh b : Int) := by
 show IntKind.u64.wrap ((BitVec.ofInt 64 (IntKind.u64.wrap b) &&& BitVec.ofInt 64 63).toNat : Int) = _
 rw [BitVec.toNat_and, IntKind.wrap_u64, IntKind.wrap_u64]
 have h63 : (BitVec.ofInt 64 63).toNat = 2 ^ 6 - 1 := by decide
 rw [h63, Nat.and_two_pow_sub_one_eq_mod, BitVec.toNat_ofInt]
 unfold sh
 omega
theorem and63' (b : Int) : bits .and .u64 (u64 b) 63 = (sh b : Int) := by rw [← Q5k]; exact Q8r b
theorem Qd6 (b : Int) : min (sh b) 64 = sh b := Nat.min_eq_left (Nat.le_of_lt (Q9h b))
theorem Qbi (x : Int) : wrap64 (IntKind.u64.wrap x) = wrap64 x := by rw [IntKind.wrap_u64]; unfold wrap64; omega
theorem Qbv (a b : Int) : (u64 a).tdiv (u64 b) = u64 a / u64 b := Int.tdiv_eq_ediv_of_nonneg (Q4w a)
theorem Qbu (a b : Int) : (u64 a).tmod (u64 b) = u64 a % u64 b := Int.tmod_eq_emod_of_nonneg (Q4w a)
structure LSee where
 kind : Int
 a : Int
 b : Int
 deriving DecidableEq, Inhabited
def rg (r : List Int) (i : Int) : Int := r.getD i.toNat 0
def rset (r : List Int) (i v : Int) : List Int := r.set i.toNat v
def Q0e (p : Q01) (r : Nat) : Nat := ((p.regs.take r).map Q09).sum
def Q0a (p : Q01) : Nat := (p.regs.map Q09).sum
def Qe3 (p : Q01) (i : LIns) : LReg := p.regs.getD i.c.toNat default
def Q13 (i : LIns) : Bool := decide (i.op = 4) || decide (i.op = 6)
def Q26 (i : LIns) : Bool := decide (i.op = 3) || decide (i.op = 5)
def putN (i : LIns) : Int := if Q13 i then 1 else 0
def Q1k (r : List Int) (i : LIns) : Int := if i.op = 5 ∨ i.op = 6 then i.n else wrap64 (rg r i.b + i.n)
def Q2z (p : Q01) (i : LIns) (x : Int) : Bool := decide (0 ≤ x) && decide (x < (Q09 (Qe3 p i) : Nat))
def Q0q (r : List Int) (i : LIns) : List Int :=
 if i.op = 1 then rset r i.a i.n
 else if i.op = 2 then rset r i.a (rg r i.b)
 else if i.op = 10 then rset r i.a (wrap64 (rg r i.b + i.n))
 else if i.op = 11 then (if rg r i.a < 0 ∨ i.n ≤ rg r i.a then rset r i.a 0 else r)
 else if i.op = 12 then r
 else rset r i.a (nop (i.op - 20) (rg r i.b) (rg r i.c))
def Q10 (r : List Int) (i : LIns) : List LSee := if i.op = 29 ∨ i.op = 30 then [⟨3, rg r i.b, rg r i.c⟩] else []
structure Mach where
 regs : List Int
 words : List Int
 at_ : Nat
 fin : Int
 value : Int
 steps : Nat
 seen : List LSee
 deriving DecidableEq, Inhabited
def Q0o (ws : List Int) : Mach := ⟨List.replicate 10 0, ws, 0, 0, 0, 0, []⟩
def Q9c (p : Q01) (i : LIns) (m : Mach) : Mach :=
 let s := m.seen ++ [⟨1, m.at_, 0⟩]
 let k := m.steps + 1
 if i.op = 7 then { m with at_ := i.n.toNat, steps := k, seen := s }
 else if i.op = 8 then { m with at_ := (if Q40 i.c (rg m.regs i.a) (rg m.regs i.b) then i.n.toNat else m.at_ + 1), steps := k, seen := s }
 else if i.op = 9 then { m with at_ := m.at_ + 1, steps := k, seen := s, fin := 1, value := rg m.regs i.a }
 else if Q13 i || Q26 i then
  let x := Q1k m.regs i
  if Q2z p i x then
   let n := Q0e p i.c.toNat + x.toNat
   let s' := s ++ [⟨2, n, putN i⟩]
   if Q13 i then { m with at_ := m.at_ + 1, steps := k, seen := s', words := m.words.set n (rg m.regs i.a) }
   else { m with at_ := m.at_ + 1, steps := k, seen := s', regs := rset m.regs i.a (m.words.getD n 0) }
  else { m with at_ := m.at_ + 1, steps := k, seen := s, fin := 2 }
 else { m with at_ := m.at_ + 1, steps := k, seen := s ++ Q10 m.regs i, regs := Q0q m.regs i }
structure Plc where
 regs : List Int
 words : List Int
 past : List (List Int)
 at_ : Nat
 deriving DecidableEq, Inhabited
structure Spc where
 pl : Plc
 fin : Int
 value : Int
 steps : Nat
 seen : List LSee
 script : List Int
 ahead : Bool
 since : Int
 back : Plc
 deriving DecidableEq, Inhabited
def Q19 (ws script : List Int) : Spc := ⟨⟨List.replicate 10 0, ws, List.replicate ws.length [], 0⟩, 0, 0, 0, [], script, false, 0, ⟨[], [], [], 0⟩⟩
def Spc.choice (s : Spc) : Int := s.script.headD 0
def Spc.chosen (s : Spc) : Spc := { s with script := s.script.tail }
def Spc.leave (s : Spc) : Spc := if s.ahead then s else { s with ahead := true, since := -1, back := s.pl }
def Spc.returns (s : Spc) : Spc := { s with seen := s.seen ++ [⟨4, 0, 0⟩], ahead := false, pl := s.back }
def Spc.goTo (s : Spc) (k : Nat) : Spc := { s with pl := { s.pl with at_ := k } }
def Spc.put_ (s : Spc) (a v : Int) : Spc := { s with pl := { s.pl with regs := rset s.pl.regs a v } }
def Q2q (i : LIns) (s : Spc) : Spc :=
 let h := Q40 i.c (rg s.pl.regs i.a) (rg s.pl.regs i.b)
 let right := if h then i.n.toNat else s.pl.at_ + 1
 let wrong := if h then s.pl.at_ + 1 else i.n.toNat
 let s1 := (s.goTo right).chosen
 if s.choice = 0 then s1 else s1.leave.goTo wrong
def Q24 (i : LIns) (n : Nat) (s : Spc) : Spc :=
 let l := s.pl.past.getD n []
 let c := s.choice
 let s1 := ((s.goTo (s.pl.at_ + 1)).chosen).put_ i.a (s.pl.words.getD n 0)
 if 0 < c ∧ c ≤ l.length then s1.leave.put_ i.a (l.getD (l.length - c.toNat) 0) else s1
def Q1d (p : Q01) (i : LIns) (s : Spc) : Spc :=
 let x := Q1k s.pl.regs i
 if !Q2z p i x && !s.ahead then { s with fin := 2 }
 else
  let n := wrap64 (Q0e p i.c.toNat + x)
  let s1 := { s with seen := s.seen ++ [⟨2, n, putN i⟩] }
  if 0 ≤ n ∧ n < s.pl.words.length then
   if Q13 i then { s1 with pl := { s1.pl with at_ := s1.pl.at_ + 1, past := s1.pl.past.set n.toNat (s1.pl.past.getD n.toNat [] ++ [s1.pl.words.getD n.toNat 0]), words := s1.pl.words.set n.toNat (rg s1.pl.regs i.a) } }
   else Q24 i n.toNat s1
  else
   let s2 := s1.goTo (s1.pl.at_ + 1)
   if Q13 i then s2 else s2.put_ i.a 0
def doS (p : Q01) (i : LIns) (s : Spc) : Spc :=
 if i.op = 7 then s.goTo i.n.toNat
 else if i.op = 8 then Q2q i s
 else if i.op = 9 then (if s.ahead then s.goTo (s.pl.at_ + 1) else { s with fin := 1, value := rg s.pl.regs i.a })
 else if i.op = 12 then s.goTo (s.pl.at_ + 1)
 else if Q13 i || Q26 i then Q1d p i s
 else { s with seen := s.seen ++ Q10 s.pl.regs i, pl := { s.pl with regs := Q0q s.pl.regs i, at_ := s.pl.at_ + 1 } }
def Q1b (i : LIns) (s : Spc) : Bool := (decide (i.op = 9) && s.ahead) || decide (i.op = 12)
def Q0y (p : Q01) (i : LIns) (s : Spc) : Spc :=
 let s0 := { s with steps := s.steps + 1, seen := s.seen ++ [⟨1, s.pl.at_, 0⟩] }
 let s1 := doS p i s0
 if s1.ahead then
  let s2 := { s1 with since := s1.since + 1 }
  if Q1b i s || decide (s2.since = 12) then s2.returns else s2
 else s1
def upS (p : Q01) (s : Spc) : Spc := if s.ahead ∧ p.code.length ≤ s.pl.at_ then s.returns else s
def runS (p : Q01) : Nat → Spc → Spc
 | 0, s => s
 | k + 1, s =>
  if s.fin ≠ 0 then s
  else match p.code[(upS p s).pl.at_]? with
   | none => { upS p s with fin := 2 }
   | some i => runS p k (Q0y p i (upS p s))
def endS (s : Spc) : Spc := if s.ahead then { s with pl := s.back } else s
theorem Q9a (l : List Nat) : ∀ k : Nat, (l.take k).sum ≤ l.sum := by
 induction l with
 | nil => intro k; simp
 | cons a l ih =>
  intro k
  cases k with
  | zero => simp
  | succ k => have := ih k; simp; omega
theorem Q99 (l : List Nat) : ∀ k : Nat, k < l.length → (l.take (k + 1)).sum = (l.take k).sum + l.getD k 0 := by
 induction l with
 | nil => intro k hk; simp at hk
 | cons a l ih =>
  intro k hk
  cases k with
  | zero => simp
  | succ k =>
   have := ih k (by simpa using hk)
   simp only [List.take_succ_cons, List.sum_cons, List.getD_cons_succ]
   omega
theorem Q63 (p : Q01) (r : Nat) (hr : r < p.regs.length) : Q0e p r + Q09 (p.regs.getD r default) ≤ Q0a p := by
 have h1 := Q99 (p.regs.map Q09) r (by simpa using hr)
 have h2 := Q9a (p.regs.map Q09) (r + 1)
 unfold Q0e Q0a
 rw [← List.map_take] at h1
 have : (List.map Q09 p.regs).getD r 0 = Q09 (p.regs.getD r default) := by simp [hr]
 rw [this, List.map_take] at h1
 rw [List.map_take]
 omega
theorem Qc9 (l : List Nat) (n : Nat) (h : ∀ x ∈ l, x ≤ n) : l.sum ≤ l.length * n := by
 induction l with
 | nil => simp
 | cons a l ih =>
  have h1 := h a (by simp)
  have h2 := ih fun x hx => h x (by simp [hx])
  simp only [List.sum_cons, List.length_cons, Nat.succ_mul]
  omega
theorem Q4e (r : LReg) (h : r.log ≤ 6) : Q09 r ≤ 64 := by
 unfold Q09
 exact Nat.le_trans (Nat.pow_le_pow_right (by omega) (show r.log.toNat ≤ 6 by omega)) (by decide)
theorem Q91 (r : LReg) : 0 < Q09 r := Nat.two_pow_pos _
theorem Q4l {l : List LReg} (h : Q0c l = true) : ∀ r ∈ l, 0 ≤ r.log ∧ r.log ≤ 6 := by
 intro r hr
 simp only [Q0c, Bool.and_eq_true, List.all_eq_true] at h
 have := h.1 r hr
 simpa [Q1r] using this
theorem Q3y {l : List LReg} (h : Q0c l = true) : l.length ≤ 6 := by
 simp only [Q0c, Bool.and_eq_true, decide_eq_true_eq] at h
 exact h.2
theorem Q3w {p : Q01} (h : Q0c p.regs = true) : Q0a p ≤ 384 := by
 have h1 := Qc9 (p.regs.map Q09) 64 fun x hx => by
  simp only [List.mem_map] at hx
  obtain ⟨r, hr, rfl⟩ := hx
  exact Q4e r (Q4l h r hr).2
 have h2 := Q3y h
 unfold Q0a
 simp only [List.length_map] at h1
 omega
theorem Q8o (p : Q01) (r : Nat) : Q0e p r ≤ Q0a p := by
 have := Q9a (p.regs.map Q09) r
 rw [← List.map_take] at this
 exact this
theorem Q6t {p : Q01} (h : Q3i p = true) : Q0c p.regs = true ∧ 1 ≤ p.code.length ∧ p.code.length ≤ 8000 ∧ ∀ i ∈ p.code, Q00 p 10 i = true := by
 simp only [Q3i, Q2x, Bool.and_eq_true, decide_eq_true_eq, List.all_eq_true] at h
 exact ⟨h.1.1.1, h.1.1.2, by have := h.1.2; omega, h.2⟩
theorem Qdx {p : Q01} {R : Int} {i : LIns} (k : Q00 p R i = true) (hw : (Q13 i || Q26 i) = true) : 0 ≤ i.c ∧ i.c.toNat < p.regs.length := by
 simp only [Q13, Q26, Bool.or_eq_true, decide_eq_true_eq] at hw
 have hop : i.op = 3 ∨ i.op = 4 ∨ i.op = 5 ∨ i.op = 6 := by omega
 simp only [Q00] at k
 rcases hop with h | h | h | h <;> simp [h, okIn] at k <;> omega
section
variable (s : Spc)
@[simp] theorem Qiq : s.leave.steps = s.steps := by unfold Spc.leave; split <;> rfl
@[simp] theorem Qit : s.leave.fin = s.fin := by unfold Spc.leave; split <;> rfl
@[simp] theorem Qip : s.leave.value = s.value := by unfold Spc.leave; split <;> rfl
@[simp] theorem Qay : s.leave.seen = s.seen := by unfold Spc.leave; split <;> rfl
@[simp] theorem Qis : s.leave.script = s.script := by unfold Spc.leave; split <;> rfl
@[simp] theorem Qgi : s.leave.pl = s.pl := by unfold Spc.leave; split <;> rfl
@[simp] theorem Qiv : s.leave.ahead = true := by unfold Spc.leave; split <;> simp_all
@[simp] theorem Qiu : s.leave.back = if s.ahead then s.back else s.pl := by unfold Spc.leave; split <;> rfl
@[simp] theorem Qir : s.leave.since = if s.ahead then s.since else -1 := by unfold Spc.leave; split <;> rfl
end
theorem Qhx (i : LIns) (s : Spc) : (Q2q i s).steps = s.steps := by
 simp only [Q2q]
 split <;> simp [Spc.goTo, Spc.chosen]
theorem Qc6 (i : LIns) (n : Nat) (s : Spc) : (Q24 i n s).steps = s.steps := by
 simp only [Q24]
 split <;> simp [Spc.goTo, Spc.chosen, Spc.put_]
theorem Qbq (p : Q01) (i : LIns) (s : Spc) : (Q1d p i s).steps = s.steps := by
 simp only [Q1d]
 repeat' split
 all_goals simp [Qc6, Spc.goTo, Spc.put_]
theorem Qb8 (p : Q01) (i : LIns) (s : Spc) : (doS p i s).steps = s.steps := by
 simp only [doS]
 repeat' split
 all_goals simp [Qbq, Qhx, Spc.goTo]
theorem Q33 (p : Q01) (i : LIns) (s : Spc) : (Q0y p i s).steps = s.steps + 1 := by
 simp only [Q0y, Spc.returns]
 repeat' split
 all_goals simp [Qb8]
end Go.Proofs.Yteiknefajlocoaa

namespace Go.Proofs.Yteiknefajlocoaa
open Go.RowKit
set_option linter.unusedSimpArgs false
set_option linter.unusedVariables false
def Q15 (p : Q01) (ws : List Int) : List (List Int) := (List.range p.regs.length).map fun k => (ws.drop (Q0e p k)).take (Q09 (p.regs.getD k default))
theorem Q4g (p : Q01) (ws : List Int) : (Q15 p ws).length = p.regs.length := by simp [Q15]
theorem Q7f {p : Q01} (ws : List Int) {k : Nat} (hk : k < p.regs.length) : (Q15 p ws).getD k default = (ws.drop (Q0e p k)).take (Q09 (p.regs.getD k default)) := by
 simp [Q15, hk]
theorem Qbe (p : Q01) : Q0e p 0 = 0 := by simp [Q0e]
theorem Qbf (p : Q01) {k : Nat} (hk : k < p.regs.length) : Q0e p (k + 1) = Q0e p k + Q09 (p.regs.getD k default) := by
 unfold Q0e
 rw [List.map_take, List.map_take, Q99 _ k (by simpa using hk)]
 simp [hk]
theorem Qia (p : Q01) {k : Nat} (hk : p.regs.length ≤ k) : Q0e p k = Q0a p := by
 unfold Q0e Q0a
 rw [List.take_of_length_le hk]
theorem Qch {p : Q01} {ws : List Int} (hl : ws.length = Q0a p) {k : Nat} (hk : k < p.regs.length) : ((Q15 p ws).getD k default).length = Q09 (p.regs.getD k default) := by
 rw [Q7f ws hk, List.length_take, List.length_drop]
 have := Q63 p k hk
 omega
theorem Q6v {p : Q01} {m : List (List Int)} (h : Q2i p m = true) : m.length = p.regs.length ∧ ∀ k, k < p.regs.length → (m.getD k default).length = Q09 (p.regs.getD k default) := by
 simp only [Q2i, Bool.and_eq_true, decide_eq_true_eq, List.all_eq_true, List.mem_range] at h
 exact ⟨h.1.2, h.2⟩
theorem Qb2 {p : Q01} {m : List (List Int)} (h : Q2i p m = true) : ∀ k, k ≤ p.regs.length → (m.take k).flatten.length = Q0e p k := by
 obtain ⟨h1, h2⟩ := Q6v h
 intro k
 induction k with
 | zero => intro _; simp [Qbe]
 | succ k ih =>
  intro hk
  rw [List.take_succ_eq_append_getElem (by omega), List.flatten_append, List.length_append, ih (by omega), Qbf p (by omega), ← h2 k (by omega)]
  simp [show k < m.length by omega]
theorem Qb1 {p : Q01} {m : List (List Int)} (h : Q2i p m = true) : m.flatten.length = Q0a p := by
 have := Qb2 h p.regs.length (Nat.le_refl _)
 rw [Qia p (Nat.le_refl _), List.take_of_length_le (by have := (Q6v h).1; omega)] at this
 exact this
theorem Q92 (p : Q01) (ws : List Int) (P : Int → Prop) (h : ∀ x ∈ ws, P x) : ∀ l ∈ Q15 p ws, ∀ x ∈ l, P x := by
 intro l hl x hx
 simp only [Q15, List.mem_map, List.mem_range] at hl
 obtain ⟨k, _, rfl⟩ := hl
 exact h x (List.mem_of_mem_drop (List.mem_of_mem_take hx))
section
variable {p : Q01} {C : Int → Prop} {IN IA : Plc → Plc → Prop} {End : List Int → List Int → Prop} {s t : Spc}
end
end Go.Proofs.Yteiknefajlocoaa
