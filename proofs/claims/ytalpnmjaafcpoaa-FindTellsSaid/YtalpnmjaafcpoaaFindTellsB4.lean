/- Laid together from: NumP, Sem, SemL, Flat, SpecL, Quiet, SpP, FdP. -/
import Derived.WalkKit
import Derived.Laws.BitsAllLaws
import Derived.Laws.BitsLemmas
import Derived.Test.YtalpnmjaafcpoaaFindTellsB1

namespace Go.Proofs.Ytalpnmjaafcpoaa
open Go.RowKit
def u64 (n : Int) : Int := n % 18446744073709551616
def sh (b : Int) : Nat := (b % 64).toNat
def nop (op a b : Int) : Int :=
 if op = 1 then wrap64 (a + b) else if op = 2 then wrap64 (a - b) else if op = 3 then wrap64 (a * b)
 else if op = 4 then bits .and .i64 a b else if op = 5 then bits .or .i64 a b else if op = 6 then bits .xor .i64 a b
 else if op = 7 then wrap64 (u64 a * 2 ^ sh b) else if op = 8 then wrap64 (u64 a / 2 ^ sh b)
 else if op = 9 then (if u64 b = 0 then 0 else wrap64 (u64 a / u64 b))
 else if op = 10 then (if u64 b = 0 then a else wrap64 (u64 a % u64 b)) else 0
def Q46 (c a b : Int) : Bool :=
 (c == 1 && a == b) || (c == 2 && a != b) || (c == 3 && decide (u64 a < u64 b)) || (c == 4 && !decide (u64 a < u64 b))
theorem Q65 (n : Int) : IntKind.i64.wrap n = wrap64 n := IntWalk.i64_left n
theorem Q5s (n : Int) : IntKind.u64.wrap n = u64 n := by rw [IntKind.wrap_u64]; rfl
theorem Q51 (n : Int) : 0 ≤ u64 n := by unfold u64; omega
theorem Q7e (n : Int) : u64 n < 18446744073709551616 := by unfold u64; omega
theorem Q9s (b : Int) : sh b < 64 := by unfold sh; omega
theorem Q8z (b : Int) : bits .and .u64 (IntKind.u64.wrap b) 63 = (sh b : Int) := by
 show IntKind.u64.wrap ((BitVec.ofInt 64 (IntKind.u64.wrap b) &&& BitVec.ofInt 64 63).toNat : Int) = _
 rw [BitVec.toNat_and, IntKind.wrap_u64, IntKind.wrap_u64]
 have h63 : (BitVec.ofInt 64 63).toNat = 2 ^ 6 - 1 := by decide
 rw [h63, Nat.and_two_pow_sub_one_eq_mod, BitVec.toNat_ofInt]
 unfold sh
 omega
theorem and63' (b : Int) : bits .and .u64 (u64 b) 63 = (sh b : Int) := by rw [← Q5s]; exact Q8z b
theorem Qdi (b : Int) : min (sh b) 64 = sh b := Nat.min_eq_left (Nat.le_of_lt (Q9s b))
theorem Qbw (x : Int) : wrap64 (IntKind.u64.wrap x) = wrap64 x := by rw [IntKind.wrap_u64]; unfold wrap64; omega
theorem Qc9 (a b : Int) : (u64 a).tdiv (u64 b) = u64 a / u64 b := Int.tdiv_eq_ediv_of_nonneg (Q51 a)
theorem Qc8 (a b : Int) : (u64 a).tmod (u64 b) = u64 a % u64 b := Int.tmod_eq_emod_of_nonneg (Q51 a)
structure LSee where
 kind : Int
 a : Int
 b : Int
 deriving DecidableEq, Inhabited
def rg (r : List Int) (i : Int) : Int := r.getD i.toNat 0
def rset (r : List Int) (i v : Int) : List Int := r.set i.toNat v
def Q0k (p : Q01) (r : Nat) : Nat := ((p.regs.take r).map Q09).sum
def Q0b (p : Q01) : Nat := (p.regs.map Q09).sum
def Qef (p : Q01) (i : LIns) : LReg := p.regs.getD i.c.toNat default
def Q15 (i : LIns) : Bool := decide (i.op = 4) || decide (i.op = 6)
def Q28 (i : LIns) : Bool := decide (i.op = 3) || decide (i.op = 5)
def putN (i : LIns) : Int := if Q15 i then 1 else 0
def Q1n (r : List Int) (i : LIns) : Int := if i.op = 5 ∨ i.op = 6 then i.n else wrap64 (rg r i.b + i.n)
def Q31 (p : Q01) (i : LIns) (x : Int) : Bool := decide (0 ≤ x) && decide (x < (Q09 (Qef p i) : Nat))
def Q0r (r : List Int) (i : LIns) : List Int :=
 if i.op = 1 then rset r i.a i.n
 else if i.op = 2 then rset r i.a (rg r i.b)
 else if i.op = 10 then rset r i.a (wrap64 (rg r i.b + i.n))
 else if i.op = 11 then (if rg r i.a < 0 ∨ i.n ≤ rg r i.a then rset r i.a 0 else r)
 else if i.op = 12 then r
 else rset r i.a (nop (i.op - 20) (rg r i.b) (rg r i.c))
def Q12 (r : List Int) (i : LIns) : List LSee := if i.op = 29 ∨ i.op = 30 then [⟨3, rg r i.b, rg r i.c⟩] else []
structure Mach where
 regs : List Int
 words : List Int
 at_ : Nat
 fin : Int
 value : Int
 steps : Nat
 seen : List LSee
 deriving DecidableEq, Inhabited
def Q0n (ws : List Int) : Mach := ⟨List.replicate 10 0, ws, 0, 0, 0, 0, []⟩
def Q9l (p : Q01) (i : LIns) (m : Mach) : Mach :=
 let s := m.seen ++ [⟨1, m.at_, 0⟩]
 let k := m.steps + 1
 if i.op = 7 then { m with at_ := i.n.toNat, steps := k, seen := s }
 else if i.op = 8 then { m with at_ := (if Q46 i.c (rg m.regs i.a) (rg m.regs i.b) then i.n.toNat else m.at_ + 1), steps := k, seen := s }
 else if i.op = 9 then { m with at_ := m.at_ + 1, steps := k, seen := s, fin := 1, value := rg m.regs i.a }
 else if Q15 i || Q28 i then
  let x := Q1n m.regs i
  if Q31 p i x then
   let n := Q0k p i.c.toNat + x.toNat
   let s' := s ++ [⟨2, n, putN i⟩]
   if Q15 i then { m with at_ := m.at_ + 1, steps := k, seen := s', words := m.words.set n (rg m.regs i.a) }
   else { m with at_ := m.at_ + 1, steps := k, seen := s', regs := rset m.regs i.a (m.words.getD n 0) }
  else { m with at_ := m.at_ + 1, steps := k, seen := s, fin := 2 }
 else { m with at_ := m.at_ + 1, steps := k, seen := s ++ Q12 m.regs i, regs := Q0r m.regs i }
structure Plc where
 regs : List Int
 words : List Int
 past : List (List Int)
 at_ : Nat
 deriving DecidableEq, Inhabited
structure Spc where
 pl : Plc
 fin : Int
 value : Int
 steps : Nat
 seen : List LSee
 script : List Int
 ahead : Bool
 since : Int
 back : Plc
 deriving DecidableEq, Inhabited
def Q17 (ws script : List Int) : Spc := ⟨⟨List.replicate 10 0, ws, List.replicate ws.length [], 0⟩, 0, 0, 0, [], script, false, 0, ⟨[], [], [], 0⟩⟩
def Spc.choice (s : Spc) : Int := s.script.headD 0
def Spc.chosen (s : Spc) : Spc := { s with script := s.script.tail }
def Spc.leave (s : Spc) : Spc := if s.ahead then s else { s with ahead := true, since := -1, back := s.pl }
def Spc.returns (s : Spc) : Spc := { s with seen := s.seen ++ [⟨4, 0, 0⟩], ahead := false, pl := s.back }
def Spc.goTo (s : Spc) (k : Nat) : Spc := { s with pl := { s.pl with at_ := k } }
def Spc.put_ (s : Spc) (a v : Int) : Spc := { s with pl := { s.pl with regs := rset s.pl.regs a v } }
def Q2s (i : LIns) (s : Spc) : Spc :=
 let h := Q46 i.c (rg s.pl.regs i.a) (rg s.pl.regs i.b)
 let right := if h then i.n.toNat else s.pl.at_ + 1
 let wrong := if h then s.pl.at_ + 1 else i.n.toNat
 let s1 := (s.goTo right).chosen
 if s.choice = 0 then s1 else s1.leave.goTo wrong
def Q26 (i : LIns) (n : Nat) (s : Spc) : Spc :=
 let l := s.pl.past.getD n []
 let c := s.choice
 let s1 := ((s.goTo (s.pl.at_ + 1)).chosen).put_ i.a (s.pl.words.getD n 0)
 if 0 < c ∧ c ≤ l.length then s1.leave.put_ i.a (l.getD (l.length - c.toNat) 0) else s1
def Q1e (p : Q01) (i : LIns) (s : Spc) : Spc :=
 let x := Q1n s.pl.regs i
 if !Q31 p i x && !s.ahead then { s with fin := 2 }
 else
  let n := wrap64 (Q0k p i.c.toNat + x)
  let s1 := { s with seen := s.seen ++ [⟨2, n, putN i⟩] }
  if 0 ≤ n ∧ n < s.pl.words.length then
   if Q15 i then { s1 with pl := { s1.pl with at_ := s1.pl.at_ + 1, past := s1.pl.past.set n.toNat (s1.pl.past.getD n.toNat [] ++ [s1.pl.words.getD n.toNat 0]), words := s1.pl.words.set n.toNat (rg s1.pl.regs i.a) } }
   else Q26 i n.toNat s1
  else
   let s2 := s1.goTo (s1.pl.at_ + 1)
   if Q15 i then s2 else s2.put_ i.a 0
def doS (p : Q01) (i : LIns) (s : Spc) : Spc :=
 if i.op = 7 then s.goTo i.n.toNat
 else if i.op = 8 then Q2s i s
 else if i.op = 9 then (if s.ahead then s.goTo (s.pl.at_ + 1) else { s with fin := 1, value := rg s.pl.regs i.a })
 else if i.op = 12 then s.goTo (s.pl.at_ + 1)
 else if Q15 i || Q28 i then Q1e p i s
 else { s with seen := s.seen ++ Q12 s.pl.regs i, pl := { s.pl with regs := Q0r s.pl.regs i, at_ := s.pl.at_ + 1 } }
def Q1c (i : LIns) (s : Spc) : Bool := (decide (i.op = 9) && s.ahead) || decide (i.op = 12)
def Q11 (p : Q01) (i : LIns) (s : Spc) : Spc :=
 let s0 := { s with steps := s.steps + 1, seen := s.seen ++ [⟨1, s.pl.at_, 0⟩] }
 let s1 := doS p i s0
 if s1.ahead then
  let s2 := { s1 with since := s1.since + 1 }
  if Q1c i s || decide (s2.since = 12) then s2.returns else s2
 else s1
def upS (p : Q01) (s : Spc) : Spc := if s.ahead ∧ p.code.length ≤ s.pl.at_ then s.returns else s
def runS (p : Q01) : Nat → Spc → Spc
 | 0, s => s
 | k + 1, s =>
  if s.fin ≠ 0 then s
  else match p.code[(upS p s).pl.at_]? with
   | none => { upS p s with fin := 2 }
   | some i => runS p k (Q11 p i (upS p s))
def endS (s : Spc) : Spc := if s.ahead then { s with pl := s.back } else s
theorem Q9j (l : List Nat) : ∀ k : Nat, (l.take k).sum ≤ l.sum := by
 induction l with
 | nil => intro k; simp
 | cons a l ih =>
  intro k
  cases k with
  | zero => simp
  | succ k => have := ih k; simp; omega
theorem Q9i (l : List Nat) : ∀ k : Nat, k < l.length → (l.take (k + 1)).sum = (l.take k).sum + l.getD k 0 := by
 induction l with
 | nil => intro k hk; simp at hk
 | cons a l ih =>
  intro k hk
  cases k with
  | zero => simp
  | succ k =>
   have := ih k (by simpa using hk)
   simp only [List.take_succ_cons, List.sum_cons, List.getD_cons_succ]
   omega
theorem Q6a (p : Q01) (r : Nat) (hr : r < p.regs.length) : Q0k p r + Q09 (p.regs.getD r default) ≤ Q0b p := by
 have h1 := Q9i (p.regs.map Q09) r (by simpa using hr)
 have h2 := Q9j (p.regs.map Q09) (r + 1)
 unfold Q0k Q0b
 rw [← List.map_take] at h1
 have : (List.map Q09 p.regs).getD r 0 = Q09 (p.regs.getD r default) := by simp [hr]
 rw [this, List.map_take] at h1
 rw [List.map_take]
 omega
theorem Qcn (l : List Nat) (n : Nat) (h : ∀ x ∈ l, x ≤ n) : l.sum ≤ l.length * n := by
 induction l with
 | nil => simp
 | cons a l ih =>
  have h1 := h a (by simp)
  have h2 := ih fun x hx => h x (by simp [hx])
  simp only [List.sum_cons, List.length_cons, Nat.succ_mul]
  omega
theorem Q4i (r : LReg) (h : r.log ≤ 6) : Q09 r ≤ 64 := by
 unfold Q09
 exact Nat.le_trans (Nat.pow_le_pow_right (by omega) (show r.log.toNat ≤ 6 by omega)) (by decide)
theorem Q9a (r : LReg) : 0 < Q09 r := Nat.two_pow_pos _
theorem Q4p {l : List LReg} (h : Q0h l = true) : ∀ r ∈ l, 0 ≤ r.log ∧ r.log ≤ 6 := by
 intro r hr
 simp only [Q0h, Bool.and_eq_true, List.all_eq_true] at h
 have := h.1 r hr
 simpa [Q1t] using this
theorem Q44 {l : List LReg} (h : Q0h l = true) : l.length ≤ 6 := by
 simp only [Q0h, Bool.and_eq_true, decide_eq_true_eq] at h
 exact h.2
theorem Q42 {p : Q01} (h : Q0h p.regs = true) : Q0b p ≤ 384 := by
 have h1 := Qcn (p.regs.map Q09) 64 fun x hx => by
  simp only [List.mem_map] at hx
  obtain ⟨r, hr, rfl⟩ := hx
  exact Q4i r (Q4p h r hr).2
 have h2 := Q44 h
 unfold Q0b
 simp only [List.length_map] at h1
 omega
theorem Q8w (p : Q01) (r : Nat) : Q0k p r ≤ Q0b p := by
 have := Q9j (p.regs.map Q09) r
 rw [← List.map_take] at this
 exact this
theorem Q72 {p : Q01} (h : Q3o p = true) : Q0h p.regs = true ∧ 1 ≤ p.code.length ∧ p.code.length ≤ 8000 ∧ ∀ i ∈ p.code, Q00 p 10 i = true := by
 simp only [Q3o, Q2z, Bool.and_eq_true, decide_eq_true_eq, List.all_eq_true] at h
 exact ⟨h.1.1.1, h.1.1.2, by have := h.1.2; omega, h.2⟩
theorem Qe9 {p : Q01} {R : Int} {i : LIns} (k : Q00 p R i = true) (hw : (Q15 i || Q28 i) = true) : 0 ≤ i.c ∧ i.c.toNat < p.regs.length := by
 simp only [Q15, Q28, Bool.or_eq_true, decide_eq_true_eq] at hw
 have hop : i.op = 3 ∨ i.op = 4 ∨ i.op = 5 ∨ i.op = 6 := by omega
 simp only [Q00] at k
 rcases hop with h | h | h | h <;> simp [h, okIn] at k <;> omega
section
variable (s : Spc)
@[simp] theorem Qj6 : s.leave.steps = s.steps := by unfold Spc.leave; split <;> rfl
@[simp] theorem Qj9 : s.leave.fin = s.fin := by unfold Spc.leave; split <;> rfl
@[simp] theorem Qj5 : s.leave.value = s.value := by unfold Spc.leave; split <;> rfl
@[simp] theorem Qbb : s.leave.seen = s.seen := by unfold Spc.leave; split <;> rfl
@[simp] theorem Qj8 : s.leave.script = s.script := by unfold Spc.leave; split <;> rfl
@[simp] theorem Qgu : s.leave.pl = s.pl := by unfold Spc.leave; split <;> rfl
@[simp] theorem Qjb : s.leave.ahead = true := by unfold Spc.leave; split <;> simp_all
@[simp] theorem Qja : s.leave.back = if s.ahead then s.back else s.pl := by unfold Spc.leave; split <;> rfl
@[simp] theorem Qj7 : s.leave.since = if s.ahead then s.since else -1 := by unfold Spc.leave; split <;> rfl
end
theorem Qie (i : LIns) (s : Spc) : (Q2s i s).steps = s.steps := by
 simp only [Q2s]
 split <;> simp [Spc.goTo, Spc.chosen]
theorem Qck (i : LIns) (n : Nat) (s : Spc) : (Q26 i n s).steps = s.steps := by
 simp only [Q26]
 split <;> simp [Spc.goTo, Spc.chosen, Spc.put_]
theorem Qc4 (p : Q01) (i : LIns) (s : Spc) : (Q1e p i s).steps = s.steps := by
 simp only [Q1e]
 repeat' split
 all_goals simp [Qck, Spc.goTo, Spc.put_]
theorem Qbk (p : Q01) (i : LIns) (s : Spc) : (doS p i s).steps = s.steps := by
 simp only [doS]
 repeat' split
 all_goals simp [Qc4, Qie, Spc.goTo]
theorem Q37 (p : Q01) (i : LIns) (s : Spc) : (Q11 p i s).steps = s.steps + 1 := by
 simp only [Q11, Spc.returns]
 repeat' split
 all_goals simp [Qbk]
end Go.Proofs.Ytalpnmjaafcpoaa

namespace Go.Proofs.Ytalpnmjaafcpoaa
open Go.RowKit
set_option linter.unusedSimpArgs false
set_option linter.unusedVariables false
def Q0q (p : Q01) (ws : List Int) : List (List Int) := (List.range p.regs.length).map fun k => (ws.drop (Q0k p k)).take (Q09 (p.regs.getD k default))
theorem Q4k (p : Q01) (ws : List Int) : (Q0q p ws).length = p.regs.length := by simp [Q0q]
theorem Q7m {p : Q01} (ws : List Int) {k : Nat} (hk : k < p.regs.length) : (Q0q p ws).getD k default = (ws.drop (Q0k p k)).take (Q09 (p.regs.getD k default)) := by
 simp [Q0q, hk]
theorem Qbq (p : Q01) : Q0k p 0 = 0 := by simp [Q0k]
theorem Qbr (p : Q01) {k : Nat} (hk : k < p.regs.length) : Q0k p (k + 1) = Q0k p k + Q09 (p.regs.getD k default) := by
 unfold Q0k
 rw [List.map_take, List.map_take, Q9i _ k (by simpa using hk)]
 simp [hk]
theorem Qir (p : Q01) {k : Nat} (hk : p.regs.length ≤ k) : Q0k p k = Q0b p := by
 unfold Q0k Q0b
 rw [List.take_of_length_le hk]
theorem Qcv {p : Q01} {ws : List Int} (hl : ws.length = Q0b p) {k : Nat} (hk : k < p.regs.length) : ((Q0q p ws).getD k default).length = Q09 (p.regs.getD k default) := by
 rw [Q7m ws hk, List.length_take, List.length_drop]
 have := Q6a p k hk
 omega
theorem Q74 {p : Q01} {m : List (List Int)} (h : Q2j p m = true) : m.length = p.regs.length ∧ ∀ k, k < p.regs.length → (m.getD k default).length = Q09 (p.regs.getD k default) := by
 simp only [Q2j, Bool.and_eq_true, decide_eq_true_eq, List.all_eq_true, List.mem_range] at h
 exact ⟨h.1.2, h.2⟩
theorem Qbe {p : Q01} {m : List (List Int)} (h : Q2j p m = true) : ∀ k, k ≤ p.regs.length → (m.take k).flatten.length = Q0k p k := by
 obtain ⟨h1, h2⟩ := Q74 h
 intro k
 induction k with
 | zero => intro _; simp [Qbq]
 | succ k ih =>
  intro hk
  rw [List.take_succ_eq_append_getElem (by omega), List.flatten_append, List.length_append, ih (by omega), Qbr p (by omega), ← h2 k (by omega)]
  simp [show k < m.length by omega]
theorem Qbd {p : Q01} {m : List (List Int)} (h : Q2j p m = true) : m.flatten.length = Q0b p := by
 have := Qbe h p.regs.length (Nat.le_refl _)
 rw [Qir p (Nat.le_refl _), List.take_of_length_le (by have := (Q74 h).1; omega)] at this
 exact this
theorem Q9b (p : Q01) (ws : List Int) (P : Int → Prop) (h : ∀ x ∈ ws, P x) : ∀ l ∈ Q0q p ws, ∀ x ∈ l, P x := by
 intro l hl x hx
 simp only [Q0q, List.mem_map, List.mem_range] at hl
 obtain ⟨k, _, rfl⟩ := hl
 exact h x (List.mem_of_mem_drop (List.mem_of_mem_take hx))
section
variable {p : Q01} {C : Int → Prop} {IN IA : Plc → Plc → Prop} {End : List Int → List Int → Prop} {s t : Spc}
end
end Go.Proofs.Ytalpnmjaafcpoaa

namespace Go.Proofs.Ytalpnmjaafcpoaa
set_option linter.unusedVariables false
set_option linter.unusedSimpArgs false
def Q3g : List LSee → List LSee → Nat
 | a :: x, b :: y => if a = b then Q3g x y + 1 else 0
 | _, _ => 0
theorem Q8p : ∀ (x y : List LSee) (k : Nat), k ≤ x.length → k ≤ y.length → (∀ j, j < k → x.getD j default = y.getD j default) → (k = x.length ∨ k = y.length ∨ x.getD k default ≠ y.getD k default) → Q3g x y = k
 | [], y, k, h1, h2, he, h3 => by
  have : k = 0 := by simpa using h1
  subst this
  rfl
 | a :: x, [], k, h1, h2, he, h3 => by
  have : k = 0 := by simpa using h2
  subst this
  rfl
 | a :: x, b :: y, 0, h1, h2, he, h3 => by
  have hne : a ≠ b := by
   rcases h3 with h | h | h
   ·simp at h
   ·simp at h
   ·simpa using h
  rw [Q3g, if_neg hne]
 | a :: x, b :: y, k + 1, h1, h2, he, h3 => by
  have hab : a = b := by simpa using he 0 (by omega)
  rw [Q3g, if_pos hab, Q8p x y k (by simpa using h1) (by simpa using h2) (fun j hj => by simpa using he (j + 1) (by omega)) (by
   rcases h3 with h | h | h
   ·left; simpa using h
   ·right; left; simpa using h
   ·right; right; simpa using h)]
def Q3w (x y : List LSee) : Bool := decide (Q3g x y < x.length ∨ Q3g x y < y.length)
def Q5i (x y : List LSee) : Int := if Q3w x y then (Q3g x y : Int) else 0
theorem Qhv {x y : List LSee} {k : Nat} (h1 : k ≤ x.length) (h2 : k ≤ y.length) (he : ∀ j, j < k → x.getD j default = y.getD j default) (h3 : k = x.length ∨ k = y.length ∨ x.getD k default ≠ y.getD k default) (h4 : k < x.length ∨ k < y.length) :
  Q3w x y = true ∧ Q5i x y = k := by
 have hd := Q8p x y k h1 h2 he h3
 have hb : Q3w x y = true := by unfold Q3w; rw [hd]; simpa using h4
 refine ⟨hb, ?_⟩
 unfold Q5i
 rw [hb, hd]
 rfl
theorem Qhu {x y : List LSee} {k : Nat} (h1 : k = x.length) (h2 : k = y.length) (he : ∀ j, j < k → x.getD j default = y.getD j default) : Q3w x y = false ∧ Q5i x y = 0 := by
 have hd := Q8p x y k (by omega) (by omega) he (.inl h1)
 have hb : Q3w x y = false := by
  unfold Q3w
  rw [hd]
  simp
  omega
 refine ⟨hb, ?_⟩
 unfold Q5i
 rw [hb]
 rfl
end Go.Proofs.Ytalpnmjaafcpoaa
