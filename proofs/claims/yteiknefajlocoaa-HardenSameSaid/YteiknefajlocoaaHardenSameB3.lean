/- Laid together from: NumP, Sem, SemL, CheckP, SpecL, Quiet, Flat, Rk. -/
import Derived.WalkKit
import Derived.Laws.BitsAllLaws
import Derived.Laws.BitsLemmas
import Derived.Test.YteiknefajlocoaaHardenSameB1
import Derived.Test.YteiknefajlocoaaHardenSameB2

/- The numbers of chapter 1 as plain functions over Int: what num.Op and num.Holds come to. No program in sight. -/
namespace Go.Proofs.Yteiknefajlocoaa
open Go.RowKit

/-- from 0 on -/
def u64 (n : Int) : Int := n % 18446744073709551616
/-- the lower six bits -/
def sh (b : Int) : Nat := (b % 64).toNat

def nop (op a b : Int) : Int :=
  if op = 1 then wrap64 (a + b) else if op = 2 then wrap64 (a - b) else if op = 3 then wrap64 (a * b)
  else if op = 4 then bits .and .i64 a b else if op = 5 then bits .or .i64 a b else if op = 6 then bits .xor .i64 a b
  else if op = 7 then wrap64 (u64 a * 2 ^ sh b) else if op = 8 then wrap64 (u64 a / 2 ^ sh b)
  else if op = 9 then (if u64 b = 0 then 0 else wrap64 (u64 a / u64 b))
  else if op = 10 then (if u64 b = 0 then a else wrap64 (u64 a % u64 b)) else 0

def nholds (c a b : Int) : Bool :=
  (c == 1 && a == b) || (c == 2 && a != b) || (c == 3 && decide (u64 a < u64 b)) || (c == 4 && !decide (u64 a < u64 b))

theorem i64_is (n : Int) : IntKind.i64.wrap n = wrap64 n := IntWalk.i64_left n
theorem u64_nonneg (n : Int) : 0 ≤ u64 n := by unfold u64; omega
theorem u64_lt (n : Int) : u64 n < 18446744073709551616 := by unfold u64; omega
theorem sh_lt (b : Int) : sh b < 64 := by unfold sh; omega

end Go.Proofs.Yteiknefajlocoaa
/- What programs do, as plain functions over lists: step by step, and with steps ahead of time. No program in sight. -/
namespace Go.Proofs.Yteiknefajlocoaa
open Go.RowKit

structure LSee where
  kind : Int
  a : Int
  b : Int
  deriving DecidableEq, Inhabited

def rg (r : List Int) (i : Int) : Int := r.getD i.toNat 0
def rset (r : List Int) (i v : Int) : List Int := r.set i.toNat v
/-- how many words the regions ahead of one have -/
def baseOf (p : LProg) (r : Nat) : Nat := ((p.regs.take r).map wordsOf).sum
def total (p : LProg) : Nat := (p.regs.map wordsOf).sum
def regOf (p : LProg) (i : LIns) : LReg := p.regs.getD i.c.toNat default
def isPut (i : LIns) : Bool := decide (i.op = 4) || decide (i.op = 6)
def isTake (i : LIns) : Bool := decide (i.op = 3) || decide (i.op = 5)
def putN (i : LIns) : Int := if isPut i then 1 else 0
def idxOf (r : List Int) (i : LIns) : Int := if i.op = 5 ∨ i.op = 6 then i.n else wrap64 (rg r i.b + i.n)
def insideB (p : LProg) (i : LIns) (x : Int) : Bool := decide (0 ≤ x) && decide (x < (wordsOf (regOf p i) : Nat))
/-- an instruction of registers alone -/
def plainR (r : List Int) (i : LIns) : List Int :=
  if i.op = 1 then rset r i.a i.n
  else if i.op = 2 then rset r i.a (rg r i.b)
  else if i.op = 10 then rset r i.a (wrap64 (rg r i.b + i.n))
  else if i.op = 11 then (if rg r i.a < 0 ∨ i.n ≤ rg r i.a then rset r i.a 0 else r)
  else if i.op = 12 then r
  else rset r i.a (nop (i.op - 20) (rg r i.b) (rg r i.c))
def plainS (r : List Int) (i : LIns) : List LSee := if i.op = 29 ∨ i.op = 30 then [⟨3, rg r i.b, rg r i.c⟩] else []

/-- a run: registers, the words of all regions in one row, the place, and what it has shown -/
structure Mach where
  regs : List Int
  words : List Int
  at_ : Nat
  fin : Int
  value : Int
  steps : Nat
  seen : List LSee
  deriving DecidableEq, Inhabited

def start (ws : List Int) : Mach := ⟨List.replicate 10 0, ws, 0, 0, 0, 0, []⟩
def stepM (p : LProg) (i : LIns) (m : Mach) : Mach :=
  let s := m.seen ++ [⟨1, m.at_, 0⟩]
  let k := m.steps + 1
  if i.op = 7 then { m with at_ := i.n.toNat, steps := k, seen := s }
  else if i.op = 8 then { m with at_ := (if nholds i.c (rg m.regs i.a) (rg m.regs i.b) then i.n.toNat else m.at_ + 1), steps := k, seen := s }
  else if i.op = 9 then { m with at_ := m.at_ + 1, steps := k, seen := s, fin := 1, value := rg m.regs i.a }
  else if isPut i || isTake i then
    let x := idxOf m.regs i
    if insideB p i x then
      let n := baseOf p i.c.toNat + x.toNat
      let s' := s ++ [⟨2, n, putN i⟩]
      if isPut i then { m with at_ := m.at_ + 1, steps := k, seen := s', words := m.words.set n (rg m.regs i.a) }
      else { m with at_ := m.at_ + 1, steps := k, seen := s', regs := rset m.regs i.a (m.words.getD n 0) }
    else { m with at_ := m.at_ + 1, steps := k, seen := s, fin := 2 }
  else { m with at_ := m.at_ + 1, steps := k, seen := s ++ plainS m.regs i, regs := plainR m.regs i }
def runM (p : LProg) : Nat → Mach → Mach
  | 0, m => m
  | k + 1, m =>
    if m.fin ≠ 0 then m
    else match p.code[m.at_]? with
      | none => { m with fin := 2 }
      | some i => runM p k (stepM p i m)

/-! with steps ahead of time -/
structure Plc where
  regs : List Int
  words : List Int
  past : List (List Int)
  at_ : Nat
  deriving DecidableEq, Inhabited
structure Spc where
  pl : Plc
  fin : Int
  value : Int
  steps : Nat
  seen : List LSee
  script : List Int
  ahead : Bool
  since : Int
  back : Plc
  deriving DecidableEq, Inhabited
def Spc.leave (s : Spc) : Spc := if s.ahead then s else { s with ahead := true, since := -1, back := s.pl }
def Spc.returns (s : Spc) : Spc := { s with seen := s.seen ++ [⟨4, 0, 0⟩], ahead := false, pl := s.back }
def Spc.goTo (s : Spc) (k : Nat) : Spc := { s with pl := { s.pl with at_ := k } }
end Go.Proofs.Yteiknefajlocoaa
/- Plain laws of runs: more fuel goes on; without choices nothing is done ahead of time; what is done ahead of time is taken back. No program in sight. -/
namespace Go.Proofs.Yteiknefajlocoaa
open Go.RowKit

/-! without steps ahead of time -/
theorem runM_end {p : LProg} {m : Mach} (h : m.fin ≠ 0) (k : Nat) : runM p k m = m := by
  cases k with
  | zero => rfl
  | succ k => rw [runM, if_pos h]
theorem runM_add (p : LProg) (j : Nat) : ∀ (k : Nat) (m : Mach), runM p (k + j) m = runM p j (runM p k m)
  | 0, m => by simp [runM]
  | k + 1, m => by
    rw [Nat.succ_add, runM, runM]
    by_cases h : m.fin ≠ 0
    · rw [if_pos h, if_pos h, runM_end h]
    · rw [if_neg h, if_neg h]
      cases hc : p.code[m.at_]? with
      | none => exact (runM_end (m := { m with fin := 2 }) (by simp) j).symm
      | some i => exact runM_add p j k (stepM p i m)
theorem stepM_steps (p : LProg) (i : LIns) (m : Mach) : (stepM p i m).steps = m.steps + 1 := by
  simp only [stepM]
  repeat' split
  all_goals rfl
/-! regions -/
theorem sum_take_le (l : List Nat) : ∀ k : Nat, (l.take k).sum ≤ l.sum := by
  induction l with
  | nil => intro k; simp
  | cons a l ih =>
    intro k
    cases k with
    | zero => simp
    | succ k => have := ih k; simp; omega
theorem sum_take_succ (l : List Nat) : ∀ k : Nat, k < l.length → (l.take (k + 1)).sum = (l.take k).sum + l.getD k 0 := by
  induction l with
  | nil => intro k hk; simp at hk
  | cons a l ih =>
    intro k hk
    cases k with
    | zero => simp
    | succ k =>
      have := ih k (by simpa using hk)
      simp only [List.take_succ_cons, List.sum_cons, List.getD_cons_succ]
      omega
theorem base_end (p : LProg) (r : Nat) (hr : r < p.regs.length) : baseOf p r + wordsOf (p.regs.getD r default) ≤ total p := by
  have h1 := sum_take_succ (p.regs.map wordsOf) r (by simpa using hr)
  have h2 := sum_take_le (p.regs.map wordsOf) (r + 1)
  unfold baseOf total
  rw [← List.map_take] at h1
  have : (List.map wordsOf p.regs).getD r 0 = wordsOf (p.regs.getD r default) := by simp [hr]
  rw [this, List.map_take] at h1
  rw [List.map_take]
  omega
theorem sum_le (l : List Nat) (n : Nat) (h : ∀ x ∈ l, x ≤ n) : l.sum ≤ l.length * n := by
  induction l with
  | nil => simp
  | cons a l ih =>
    have h1 := h a (by simp)
    have h2 := ih fun x hx => h x (by simp [hx])
    simp only [List.sum_cons, List.length_cons, Nat.succ_mul]
    omega
theorem words_le (r : LReg) (h : r.log ≤ 6) : wordsOf r ≤ 64 := by
  unfold wordsOf
  exact Nat.le_trans (Nat.pow_le_pow_right (by omega) (show r.log.toNat ≤ 6 by omega)) (by decide)
theorem words_pos (r : LReg) : 0 < wordsOf r := Nat.two_pow_pos _
theorem regsOk_log {l : List LReg} (h : regsOk l = true) : ∀ r ∈ l, 0 ≤ r.log ∧ r.log ≤ 6 := by
  intro r hr
  simp only [regsOk, Bool.and_eq_true, List.all_eq_true] at h
  have := h.1 r hr
  simpa [regOk] using this
theorem regsOk_len {l : List LReg} (h : regsOk l = true) : l.length ≤ 6 := by
  simp only [regsOk, Bool.and_eq_true, decide_eq_true_eq] at h
  exact h.2
theorem total_le {p : LProg} (h : regsOk p.regs = true) : total p ≤ 384 := by
  have h1 := sum_le (p.regs.map wordsOf) 64 fun x hx => by
    simp only [List.mem_map] at hx
    obtain ⟨r, hr, rfl⟩ := hx
    exact words_le r (regsOk_log h r hr).2
  have h2 := regsOk_len h
  unfold total
  simp only [List.length_map] at h1
  omega
theorem base_le (p : LProg) (r : Nat) : baseOf p r ≤ total p := by
  have := sum_take_le (p.regs.map wordsOf) r
  rw [← List.map_take] at this
  exact this

/-! hard programs -/
theorem hard_parts {p : LProg} (h : hardOk p = true) : regsOk p.regs = true ∧ 1 ≤ p.code.length ∧ p.code.length ≤ 8000 ∧ ∀ i ∈ p.code, insOk p 10 i = true := by
  simp only [hardOk, progOk, Bool.and_eq_true, decide_eq_true_eq, List.all_eq_true] at h
  exact ⟨h.1.1.1, h.1.1.2, by have := h.1.2; omega, h.2⟩
theorem may_parts {p : LProg} (h : mayOk p = true) : regsOk p.regs = true ∧ 1 ≤ p.code.length ∧ p.code.length ≤ 200 ∧ ∀ i ∈ p.code, insOk p 8 i = true := by
  simp only [mayOk, progOk, Bool.and_eq_true, decide_eq_true_eq, List.all_eq_true] at h
  exact ⟨h.1.1.1, h.1.1.2, by have := h.1.2; omega, h.2⟩
theorem okIn_mono {a b n : Int} (h : a ≤ b) (k : okIn a n = true) : okIn b n = true := by
  simp only [okIn, Bool.and_eq_true, decide_eq_true_eq] at *
  omega
theorem insOk_mono {p : LProg} {R S : Int} (h : R ≤ S) {i : LIns} (k : insOk p R i = true) : insOk p S i = true := by
  have f := fun n => @okIn_mono R S n h
  simp only [insOk] at *
  repeat' (split at k)
  all_goals simp_all
theorem may_hard {p : LProg} (h : mayOk p = true) : hardOk p = true := by
  obtain ⟨h1, h2, h3, h4⟩ := may_parts h
  simp only [hardOk, progOk, Bool.and_eq_true, decide_eq_true_eq, List.all_eq_true]
  exact ⟨⟨⟨h1, h2⟩, by omega⟩, fun i hi => insOk_mono (by omega) (h4 i hi)⟩
/-- of a word's region there is one -/
theorem region_there {p : LProg} {R : Int} {i : LIns} (k : insOk p R i = true) (hw : (isPut i || isTake i) = true) : 0 ≤ i.c ∧ i.c.toNat < p.regs.length := by
  simp only [isPut, isTake, Bool.or_eq_true, decide_eq_true_eq] at hw
  have hop : i.op = 3 ∨ i.op = 4 ∨ i.op = 5 ∨ i.op = 6 := by omega
  simp only [insOk] at k
  rcases hop with h | h | h | h <;> simp [h, okIn] at k <;> omega
theorem idx_small {p : LProg} {i : LIns} {x : Int} (hp : regsOk p.regs = true) (hc : i.c.toNat < p.regs.length) (hx : insideB p i x = true) :
    0 ≤ x ∧ baseOf p i.c.toNat + x.toNat < total p ∧ total p ≤ 384 ∧ wrap64 (baseOf p i.c.toNat + x) = (baseOf p i.c.toNat + x.toNat : Nat) := by
  simp only [insideB, Bool.and_eq_true, decide_eq_true_eq] at hx
  unfold regOf at hx
  have h1 := base_end p i.c.toNat hc
  have h2 := total_le hp
  have h3 := hx.1
  have h4 := hx.2
  refine ⟨hx.1, by omega, h2, ?_⟩
  unfold wrap64
  omega

/-! with steps ahead of time -/
section
variable (s : Spc)
@[simp] theorem leave_steps : s.leave.steps = s.steps := by unfold Spc.leave; split <;> rfl
@[simp] theorem leave_fin : s.leave.fin = s.fin := by unfold Spc.leave; split <;> rfl
@[simp] theorem leave_value : s.leave.value = s.value := by unfold Spc.leave; split <;> rfl
@[simp] theorem leave_seen : s.leave.seen = s.seen := by unfold Spc.leave; split <;> rfl
@[simp] theorem leave_script : s.leave.script = s.script := by unfold Spc.leave; split <;> rfl
@[simp] theorem leave_pl : s.leave.pl = s.pl := by unfold Spc.leave; split <;> rfl
@[simp] theorem leave_ahead : s.leave.ahead = true := by unfold Spc.leave; split <;> simp_all
@[simp] theorem leave_back : s.leave.back = if s.ahead then s.back else s.pl := by unfold Spc.leave; split <;> rfl
@[simp] theorem leave_since : s.leave.since = if s.ahead then s.since else -1 := by unfold Spc.leave; split <;> rfl
end
end Go.Proofs.Yteiknefajlocoaa
/- What chapter 6 asks, as plain functions over lists; the least table of states is one alone. No program in sight. -/
namespace Go.Proofs.Yteiknefajlocoaa
open Go.RowKit
set_option linter.unusedSimpArgs false
set_option linter.unusedVariables false

structure LKn where
  bits : Int
  sec : Bool
  deriving DecidableEq, Inhabited
abbrev KSt := List LKn
def kg (s : KSt) (r : Int) : LKn := s.getD r.toNat default
def kset (s : KSt) (r : Int) (k : LKn) : KSt := s.set r.toNat k
def kopK (op : Int) (a b : LKn) : LKn := ⟨kop op (nrm a.bits) (nrm b.bits), a.sec || b.sec⟩
def kjoin (a b : LKn) : LKn := ⟨max (nrm a.bits) (nrm b.bits), a.sec || b.sec⟩
def kless (a b : LKn) : LKn := ⟨min (nrm a.bits) (nrm b.bits), a.sec⟩
def kofK (n : Int) : LKn := ⟨kof n, false⟩
def ksum (k : LKn) (n : Int) : LKn := if n < 0 then ⟨17, k.sec⟩ else kopK 1 k (kofK n)
def kstart : KSt := List.replicate 8 ⟨0, false⟩

/-- does a condition's holding (or not) tell of the first, and of the second, that it is not greater than the other? -/
def tells1 (c : Int) (holds : Bool) : Bool := (decide (c = 3) && holds) || (decide (c = 4) && !holds) || ((decide (c = 1) && holds) || (decide (c = 2) && !holds))
def tells2 (c : Int) (holds : Bool) : Bool := (decide (c = 3) && !holds) || (decide (c = 4) && holds) || ((decide (c = 1) && holds) || (decide (c = 2) && !holds))
def branchK (s : KSt) (i : LIns) (holds : Bool) : KSt :=
  let a := kg s i.a
  let b := kg s i.b
  let s1 := if tells1 i.c holds then kset s i.a (kless a b) else s
  if tells2 i.c holds then kset s1 i.b (kless b a) else s1
/-- what an instruction that goes on with the next one makes of a state -/
def oneK (p : LProg) (s : KSt) (i : LIns) : KSt :=
  if i.op = 1 then kset s i.a (kofK i.n)
  else if i.op = 2 then kset s i.a (kg s i.b)
  else if i.op = 10 then kset s i.a (ksum (kg s i.b) i.n)
  else if i.op = 3 ∨ i.op = 5 then kset s i.a ⟨17, (regOf p i).secret⟩
  else if i.op = 11 then kset s i.a (kless (kg s i.a) (kofK (i.n - 1)))
  else if i.op = 4 ∨ i.op = 6 ∨ i.op = 12 then s
  else kset s i.a (kopK (i.op - 20) (kg s i.b) (kg s i.c))
def leadsK (p : LProg) (at_ : Nat) (s : KSt) (i : LIns) : List (Nat × KSt) :=
  if i.op = 7 then [(i.n.toNat, s)]
  else if i.op = 9 then []
  else if i.op = 8 then [(at_ + 1, branchK s i false), (i.n.toNat, branchK s i true)]
  else [(at_ + 1, oneK p s i)]

/-! the order of states -/
def Kok (k : LKn) : Prop := 0 ≤ k.bits ∧ k.bits ≤ 17
def Kle (a b : LKn) : Prop := a.bits ≤ b.bits ∧ (a.sec = true → b.sec = true)
structure Sok (s : KSt) : Prop where
  len : s.length = 8
  ok : ∀ r : Nat, Kok (s.getD r default)
def Sle (s t : KSt) : Prop := ∀ r : Nat, Kle (s.getD r default) (t.getD r default)
theorem Kle.refl (a : LKn) : Kle a a := ⟨by omega, id⟩
theorem Kle.trans {a b c : LKn} (h : Kle a b) (k : Kle b c) : Kle a c := ⟨by have := h.1; have := k.1; omega, fun x => k.2 (h.2 x)⟩
theorem Kle.antisymm {a b : LKn} (h : Kle a b) (k : Kle b a) : a = b := by
  obtain ⟨x, y⟩ := a
  obtain ⟨u, v⟩ := b
  obtain ⟨h1, h2⟩ := h
  obtain ⟨k1, k2⟩ := k
  simp only at h1 h2 k1 k2
  have e : x = u := by omega
  subst e
  cases y <;> cases v <;> simp_all
theorem Sle.refl (s : KSt) : Sle s s := fun _ => Kle.refl _
theorem Sle.trans {s t u : KSt} (h : Sle s t) (k : Sle t u) : Sle s u := fun r => (h r).trans (k r)
theorem Sle.antisymm {s t : KSt} (hs : s.length = 8) (ht : t.length = 8) (h : Sle s t) (k : Sle t s) : s = t := by
  apply List.ext_getElem (by rw [hs, ht])
  intro r h1 h2
  have := Kle.antisymm (h r) (k r)
  simpa [h1, h2] using this
theorem nrm_ok {k : LKn} (h : Kok k) : nrm k.bits = k.bits := nrm_id h.1 h.2
theorem kok_default : Kok (default : LKn) := ⟨by decide, by decide⟩
theorem kop_bd' (op a b : Int) (a0 : 0 ≤ a) (a1 : a ≤ 17) (b0 : 0 ≤ b) (b1 : b ≤ 17) : 0 ≤ kop op a b ∧ kop op a b ≤ 17 := by
  unfold kop kopN
  split
  · split <;> omega
  repeat' (split <;> try omega)
theorem kopK_ok (op : Int) (a b : LKn) : Kok (kopK op a b) := kop_bd' op _ _ (nrm_bd _).1 (nrm_bd _).2 (nrm_bd _).1 (nrm_bd _).2
theorem kjoin_ok (a b : LKn) : Kok (kjoin a b) := by
  have := nrm_bd a.bits; have := nrm_bd b.bits
  simp only [Kok, kjoin]; omega
theorem kless_ok (a b : LKn) : Kok (kless a b) := by
  have := nrm_bd a.bits; have := nrm_bd b.bits
  simp only [Kok, kless]; omega
theorem kofK_ok (n : Int) : Kok (kofK n) := kof_bd n
theorem ksum_ok (k : LKn) (n : Int) : Kok (ksum k n) := by
  unfold ksum
  split
  · simp [Kok]
  · exact kopK_ok _ _ _
theorem kjoin_le1 {a b : LKn} (ha : Kok a) : Kle a (kjoin a b) := by
  simp only [Kle, kjoin, nrm_ok ha]
  refine ⟨by omega, fun h => by simp [h]⟩
theorem kjoin_le2 {a b : LKn} (hb : Kok b) : Kle b (kjoin a b) := by
  simp only [Kle, kjoin, nrm_ok hb]
  refine ⟨by omega, fun h => by simp [h]⟩
theorem kjoin_least {a b c : LKn} (ha : Kok a) (hb : Kok b) (h : Kle a c) (k : Kle b c) : Kle (kjoin a b) c := by
  obtain ⟨h1, h2⟩ := h
  obtain ⟨k1, k2⟩ := k
  simp only [Kle, kjoin, nrm_ok ha, nrm_ok hb]
  refine ⟨by omega, fun e => ?_⟩
  simp only [Bool.or_eq_true] at e
  rcases e with e | e
  · exact h2 e
  · exact k2 e
theorem kop_mono (op a b c d : Int) (a0 : 0 ≤ a) (b0 : 0 ≤ b) (h : a ≤ c) (k : b ≤ d) : kop op a b ≤ kop op c d := by
  have hn : kopN op a b ≤ kopN op c d := by
    unfold kopN
    by_cases h1 : op = 1
    · rw [if_pos h1, if_pos h1]; split <;> split <;> omega
    rw [if_neg h1, if_neg h1]
    by_cases h3 : op = 3
    · rw [if_pos h3, if_pos h3]; split <;> split <;> omega
    rw [if_neg h3, if_neg h3]
    by_cases h4 : op = 4
    · rw [if_pos h4, if_pos h4]; omega
    rw [if_neg h4, if_neg h4]
    by_cases h5 : op = 5 ∨ op = 6
    · rw [if_pos h5, if_pos h5]; omega
    rw [if_neg h5, if_neg h5]
    by_cases h8 : op = 8 ∨ op = 9 ∨ op = 10
    · rw [if_pos h8, if_pos h8]; omega
    rw [if_neg h8, if_neg h8]
    omega
  unfold kop
  omega
theorem kopK_mono {op : Int} {a b c d : LKn} (ha : Kok a) (hb : Kok b) (hc : Kok c) (hd : Kok d) (h : Kle a c) (k : Kle b d) : Kle (kopK op a b) (kopK op c d) := by
  simp only [Kle, kopK, nrm_ok ha, nrm_ok hb, nrm_ok hc, nrm_ok hd]
  refine ⟨kop_mono op _ _ _ _ ha.1 hb.1 h.1 k.1, fun e => ?_⟩
  simp only [Bool.or_eq_true] at e ⊢
  rcases e with e | e
  · exact .inl (h.2 e)
  · exact .inr (k.2 e)
theorem kless_mono {a b c d : LKn} (ha : Kok a) (hb : Kok b) (hc : Kok c) (hd : Kok d) (h : Kle a c) (k : Kle b d) : Kle (kless a b) (kless c d) := by
  simp only [Kle, kless, nrm_ok ha, nrm_ok hb, nrm_ok hc, nrm_ok hd]
  have := h.1; have := k.1
  exact ⟨by omega, h.2⟩
theorem ksum_mono {a b : LKn} (n : Int) (ha : Kok a) (hb : Kok b) (h : Kle a b) : Kle (ksum a n) (ksum b n) := by
  unfold ksum
  split
  · exact ⟨by simp, h.2⟩
  · exact kopK_mono ha (kofK_ok n) hb (kofK_ok n) h (Kle.refl _)
theorem Sok.kg {s : KSt} (h : Sok s) (r : Int) : Kok (kg s r) := h.ok _
theorem kset_get (s : KSt) (r : Int) (k : LKn) (j : Nat) : (kset s r k).getD j default = if j = r.toNat ∧ j < s.length then k else s.getD j default := by
  unfold kset
  rw [List.getD_eq_getElem?_getD, List.getD_eq_getElem?_getD, List.getElem?_set]
  by_cases h : r.toNat = j
  · subst h
    by_cases h2 : r.toNat < s.length
    · simp [h2]
    · simp [h2]
  · rw [if_neg h, if_neg (by omega)]
theorem Sok.set {s : KSt} (h : Sok s) (r : Int) {k : LKn} (hk : Kok k) : Sok (kset s r k) := by
  refine ⟨by simp [kset, h.len], fun j => ?_⟩
  rw [kset_get]
  split
  · exact hk
  · exact h.ok j
theorem Sle.set {s t : KSt} (hs : s.length = 8) (ht : t.length = 8) (h : Sle s t) (r : Int) {a b : LKn} (k : Kle a b) : Sle (kset s r a) (kset t r b) := fun j => by
  rw [kset_get, kset_get, hs, ht]
  split
  · exact k
  · exact h j
theorem branchK_ok {s : KSt} (h : Sok s) (i : LIns) (b : Bool) : Sok (branchK s i b) := by
  simp only [branchK]
  have h1 : Sok (if tells1 i.c b then kset s i.a (kless (kg s i.a) (kg s i.b)) else s) := by
    split
    · exact h.set _ (kless_ok _ _)
    · exact h
  split
  · exact h1.set _ (kless_ok _ _)
  · exact h1
theorem branchK_mono {s t : KSt} (hs : Sok s) (ht : Sok t) (h : Sle s t) (i : LIns) (b : Bool) : Sle (branchK s i b) (branchK t i b) := by
  simp only [branchK]
  have ka : Kle (kg s i.a) (kg t i.a) := h _
  have kb : Kle (kg s i.b) (kg t i.b) := h _
  have l1 := kless_mono (hs.kg i.a) (hs.kg i.b) (ht.kg i.a) (ht.kg i.b) ka kb
  have l2 := kless_mono (hs.kg i.b) (hs.kg i.a) (ht.kg i.b) (ht.kg i.a) kb ka
  cases tells1 i.c b <;> cases tells2 i.c b <;> simp only [if_true, if_false, Bool.false_eq_true]
  · exact h
  · exact Sle.set hs.len ht.len h _ l2
  · exact Sle.set hs.len ht.len h _ l1
  · exact Sle.set (by simp [kset, hs.len]) (by simp [kset, ht.len]) (Sle.set hs.len ht.len h _ l1) _ l2
theorem oneK_ok (p : LProg) {s : KSt} (h : Sok s) (i : LIns) : Sok (oneK p s i) := by
  unfold oneK
  repeat' split
  · exact h.set _ (kofK_ok _)
  · exact h.set _ (h.kg _)
  · exact h.set _ (ksum_ok _ _)
  · exact h.set _ ⟨by simp, by simp⟩
  · exact h.set _ (kless_ok _ _)
  · exact h
  · exact h.set _ (kopK_ok _ _ _)
theorem oneK_mono (p : LProg) {s t : KSt} (hs : Sok s) (ht : Sok t) (h : Sle s t) (i : LIns) : Sle (oneK p s i) (oneK p t i) := by
  unfold oneK
  repeat' split
  · exact Sle.set hs.len ht.len h _ (Kle.refl _)
  · exact Sle.set hs.len ht.len h _ (h _)
  · exact Sle.set hs.len ht.len h _ (ksum_mono _ (hs.kg _) (ht.kg _) (h _))
  · exact Sle.set hs.len ht.len h _ (Kle.refl _)
  · exact Sle.set hs.len ht.len h _ (kless_mono (hs.kg _) (kofK_ok _) (ht.kg _) (kofK_ok _) (h _) (Kle.refl _))
  · exact h
  · exact Sle.set hs.len ht.len h _ (kopK_mono (hs.kg _) (hs.kg _) (ht.kg _) (ht.kg _) (h _) (h _))
theorem leadsK_ok (p : LProg) (k : Nat) {s : KSt} (h : Sok s) (i : LIns) : ∀ x ∈ leadsK p k s i, Sok x.2 := by
  intro x hx
  unfold leadsK at hx
  repeat' split at hx
  · simp at hx; subst hx; exact h
  · simp at hx
  · simp at hx; rcases hx with rfl | rfl <;> exact branchK_ok h i _
  · simp at hx; subst hx; exact oneK_ok p h i
/-- what is led to from less is less -/
theorem leadsK_mono (p : LProg) (k : Nat) {s t : KSt} (hs : Sok s) (ht : Sok t) (h : Sle s t) (i : LIns) : ∀ x ∈ leadsK p k s i, ∃ y ∈ leadsK p k t i, x.1 = y.1 ∧ Sle x.2 y.2 := by
  intro x hx
  unfold leadsK at hx ⊢
  split at hx
  · rename_i h7
    rw [if_pos h7]
    simp at hx; subst hx
    exact ⟨(i.n.toNat, t), by simp, rfl, h⟩
  rename_i h7
  rw [if_neg h7]
  split at hx
  · simp at hx
  rename_i h9
  rw [if_neg h9]
  split at hx
  · rename_i h8
    rw [if_pos h8]
    simp at hx
    rcases hx with rfl | rfl
    · exact ⟨(k + 1, branchK t i false), by simp, rfl, branchK_mono hs ht h i _⟩
    · exact ⟨(i.n.toNat, branchK t i true), by simp, rfl, branchK_mono hs ht h i _⟩
  · rename_i h8
    rw [if_neg h8]
    simp at hx; subst hx
    exact ⟨(k + 1, oneK p t i), by simp, rfl, oneK_mono p hs ht h i⟩

/-! tables -/
abbrev Tab := List (Option KSt)
def tg (T : Tab) (k : Nat) : Option KSt := T.getD k none
structure Tok (p : LProg) (T : Tab) : Prop where
  len : T.length = p.code.length
  ok : ∀ k s, tg T k = some s → Sok s
def insAt (p : LProg) (k : Nat) : LIns := p.code.getD k default
/-- what is led to is there -/
def Led (p : LProg) (T : Tab) (x : Nat × KSt) : Prop := x.1 < p.code.length → ∃ t, tg T x.1 = some t ∧ Sle x.2 t
structure Post (p : LProg) (T : Tab) : Prop where
  tok : Tok p T
  first : ∃ s, tg T 0 = some s ∧ Sle kstart s
  leads : ∀ k s, tg T k = some s → ∀ x ∈ leadsK p k s (insAt p k), Led p T x
def Tle (T U : Tab) : Prop := ∀ k s, tg T k = some s → ∃ t, tg U k = some t ∧ Sle s t
def Under (p : LProg) (T : Tab) : Prop := ∀ U, Post p U → Tle T U
structure Least (p : LProg) (T : Tab) : Prop where
  post : Post p T
  under : Under p T
theorem least_unique {p : LProg} {T U : Tab} (h : Least p T) (k : Least p U) : T = U := by
  have h1 := h.under U k.post
  have h2 := k.under T h.post
  apply List.ext_getElem (by rw [h.post.tok.len, k.post.tok.len])
  intro j hj hj'
  have ea : tg T j = T[j] := by simp [tg, hj]
  have eb : tg U j = U[j] := by simp [tg, hj']
  rw [← ea, ← eb]
  cases ht : tg T j with
  | none =>
    cases hu : tg U j with
    | none => rfl
    | some s =>
      obtain ⟨t, e, _⟩ := h2 j s hu
      rw [ht] at e; cases e
  | some s =>
    obtain ⟨t, e, l1⟩ := h1 j s ht
    obtain ⟨s', e', l2⟩ := h2 j t e
    rw [ht] at e'
    obtain rfl := Option.some.inj e'
    rw [e, Sle.antisymm (h.post.tok.ok j s ht).len (k.post.tok.ok j t e).len l1 l2]

/-! one state more that leads to an instruction -/
def sjoin (a b : KSt) : KSt := (List.range 8).map fun r => kjoin (a.getD r default) (b.getD r default)
def joinT (T : Tab) (x : Nat × KSt) : Tab :=
  match tg T x.1 with
  | none => T.set x.1 (some x.2)
  | some t => T.set x.1 (some (sjoin x.2 t))
theorem sjoin_get (a b : KSt) (r : Nat) (hr : r < 8) : (sjoin a b).getD r default = kjoin (a.getD r default) (b.getD r default) := by
  simp [sjoin, hr]
theorem sjoin_ok (a b : KSt) : Sok (sjoin a b) := by
  refine ⟨by simp [sjoin], fun r => ?_⟩
  by_cases hr : r < 8
  · rw [sjoin_get a b r hr]; exact kjoin_ok _ _
  · have : (sjoin a b).length ≤ r := by simp [sjoin]; omega
    simp only [List.getD_eq_getElem?_getD, List.getElem?_eq_none this]
    exact kok_default
theorem getD_beyond {s : KSt} (hs : s.length = 8) {r : Nat} (hr : ¬ r < 8) : s.getD r default = default := by
  simp only [List.getD_eq_getElem?_getD, List.getElem?_eq_none (show s.length ≤ r by omega)]
  rfl
theorem sjoin_le1 {a b : KSt} (ha : Sok a) : Sle a (sjoin a b) := fun r => by
  by_cases hr : r < 8
  · rw [sjoin_get a b r hr]; exact kjoin_le1 (ha.ok r)
  · rw [getD_beyond ha.len hr, getD_beyond (sjoin_ok a b).len hr]; exact Kle.refl _
theorem sjoin_le2 {a b : KSt} (hb : Sok b) : Sle b (sjoin a b) := fun r => by
  by_cases hr : r < 8
  · rw [sjoin_get a b r hr]; exact kjoin_le2 (hb.ok r)
  · rw [getD_beyond hb.len hr, getD_beyond (sjoin_ok a b).len hr]; exact Kle.refl _
theorem sjoin_least {a b c : KSt} (ha : Sok a) (hb : Sok b) (hc : Sok c) (h : Sle a c) (k : Sle b c) : Sle (sjoin a b) c := fun r => by
  by_cases hr : r < 8
  · rw [sjoin_get a b r hr]; exact kjoin_least (ha.ok r) (hb.ok r) (h r) (k r)
  · rw [getD_beyond hc.len hr, getD_beyond (sjoin_ok a b).len hr]; exact Kle.refl _
theorem kjoin_comm (a b : LKn) : kjoin a b = kjoin b a := by
  simp only [kjoin, Bool.or_comm, Int.max_comm]
theorem sjoin_comm (a b : KSt) : sjoin a b = sjoin b a := by
  unfold sjoin
  simp only [kjoin_comm]
theorem tg_set (T : Tab) (k j : Nat) (o : Option KSt) : tg (T.set k o) j = if k = j ∧ j < T.length then o else tg T j := by
  unfold tg
  rw [List.getD_eq_getElem?_getD, List.getD_eq_getElem?_getD, List.getElem?_set]
  by_cases h : k = j
  · subst h
    by_cases h2 : k < T.length <;> simp [h2]
  · rw [if_neg h, if_neg (by omega)]
theorem joinT_get {T : Tab} {x : Nat × KSt} (j : Nat) (hx : x.1 < T.length) : tg (joinT T x) j = if j = x.1 then some (match tg T x.1 with | none => x.2 | some t => sjoin x.2 t) else tg T j := by
  unfold joinT
  cases h : tg T x.1 with
  | none =>
    rw [tg_set]
    by_cases e : j = x.1
    · rw [if_pos ⟨e.symm, by omega⟩, if_pos e]
    · rw [if_neg (by omega), if_neg e]
  | some t =>
    rw [tg_set]
    by_cases e : j = x.1
    · rw [if_pos ⟨e.symm, by omega⟩, if_pos e]
    · rw [if_neg (by omega), if_neg e]
theorem joinT_len (T : Tab) (x : Nat × KSt) : (joinT T x).length = T.length := by
  unfold joinT
  split <;> simp
theorem joinT_tok {p : LProg} {T : Tab} (h : Tok p T) {x : Nat × KSt} (hs : Sok x.2) (hx : x.1 < p.code.length) : Tok p (joinT T x) := by
  refine ⟨by rw [joinT_len, h.len], fun k s hk => ?_⟩
  rw [joinT_get k (by rw [h.len]; exact hx)] at hk
  split at hk
  · cases ht : tg T x.1 with
    | none => rw [ht] at hk; simp only [Option.some.injEq] at hk; subst hk; exact hs
    | some t => rw [ht] at hk; simp only [Option.some.injEq] at hk; subst hk; exact sjoin_ok _ _
  · exact h.ok k s hk
theorem joinT_above {p : LProg} {T : Tab} (h : Tok p T) {x : Nat × KSt} (hs : Sok x.2) (hx : x.1 < p.code.length) : Tle T (joinT T x) := by
  intro k s hk
  rw [joinT_get k (by rw [h.len]; exact hx)]
  split
  · rename_i e
    subst e
    rw [hk]
    exact ⟨_, rfl, sjoin_le2 (h.ok _ _ hk)⟩
  · exact ⟨s, hk, Sle.refl s⟩
theorem joinT_led {p : LProg} {T : Tab} (h : Tok p T) {x : Nat × KSt} (hs : Sok x.2) : Led p (joinT T x) x := fun hx => by
  rw [joinT_get x.1 (by rw [h.len]; exact hx), if_pos rfl]
  refine ⟨_, rfl, ?_⟩
  cases ht : tg T x.1 with
  | none => exact Sle.refl _
  | some t => exact sjoin_le1 hs
theorem Tle.trans {T U V : Tab} (h : Tle T U) (k : Tle U V) : Tle T V := fun j s hj => by
  obtain ⟨t, h1, h2⟩ := h j s hj
  obtain ⟨u, k1, k2⟩ := k j t h1
  exact ⟨u, k1, h2.trans k2⟩
theorem Tle.refl (T : Tab) : Tle T T := fun j s hj => ⟨s, hj, Sle.refl s⟩
theorem Led.mono {p : LProg} {T U : Tab} {x : Nat × KSt} (h : Led p T x) (k : Tle T U) : Led p U x := fun hx => by
  obtain ⟨t, h1, h2⟩ := h hx
  obtain ⟨u, k1, k2⟩ := k _ t h1
  exact ⟨u, k1, h2.trans k2⟩
/-- what is led to from below all tables that are closed stays below them -/
theorem joinT_under {p : LProg} {T : Tab} (h : Tok p T) (hu : Under p T) {k : Nat} {s : KSt} (hk : ∃ s', tg T k = some s' ∧ Sle s s') (hs : Sok s) {x : Nat × KSt} (hx : x ∈ leadsK p k s (insAt p k)) (hn : x.1 < p.code.length) : Under p (joinT T x) := by
  intro U hU j t hj
  rw [joinT_get j (by rw [h.len]; exact hn)] at hj
  split at hj
  · rename_i e
    subst e
    obtain ⟨s', hk', l0⟩ := hk
    obtain ⟨u, hu1, hu2⟩ := hu U hU k s' hk'
    have hsu := l0.trans hu2
    obtain ⟨y, hy, e1, l1⟩ := leadsK_mono p k hs (hU.tok.ok k u hu1) hsu (insAt p k) x hx
    obtain ⟨v, hv1, hv2⟩ := hU.leads k u hu1 y hy (by rw [← e1]; exact hn)
    rw [← e1] at hv1
    refine ⟨v, hv1, ?_⟩
    cases ht : tg T x.1 with
    | none => rw [ht] at hj; simp only [Option.some.injEq] at hj; subst hj; exact l1.trans hv2
    | some t' =>
      rw [ht] at hj
      simp only [Option.some.injEq] at hj
      subst hj
      obtain ⟨w, hw1, hw2⟩ := hu U hU x.1 t' ht
      rw [hv1] at hw1
      obtain rfl := Option.some.inj hw1
      exact sjoin_least (leadsK_ok p k hs _ x hx) (h.ok _ _ ht) (hU.tok.ok _ _ hv1) (l1.trans hv2) hw2
  · exact hu U hU j t hj

/-! the first table -/
def firstT (p : LProg) : Tab := (List.replicate p.code.length none).set 0 (some kstart)
theorem kstart_ok : Sok kstart := by
  refine ⟨rfl, fun r => ?_⟩
  by_cases hr : r < 8
  · have : kstart.getD r default = ⟨0, false⟩ := by
      match r, hr with
      | 0, _ | 1, _ | 2, _ | 3, _ | 4, _ | 5, _ | 6, _ | 7, _ => rfl
    rw [this]; exact ⟨by simp, by simp⟩
  · rw [getD_beyond (s := kstart) rfl hr]; exact kok_default
theorem firstT_get (p : LProg) (hp : 0 < p.code.length) (k : Nat) : tg (firstT p) k = if k = 0 then some kstart else none := by
  unfold firstT
  rw [tg_set]
  by_cases h : k = 0
  · subst h; rw [if_pos ⟨rfl, by simpa using hp⟩, if_pos rfl]
  · rw [if_neg (by omega), if_neg h]
    unfold tg
    rw [List.getD_eq_getElem?_getD]
    by_cases h2 : k < p.code.length <;> simp [h2]
theorem firstT_tok (p : LProg) (hp : 0 < p.code.length) : Tok p (firstT p) := by
  refine ⟨by simp [firstT], fun k s hk => ?_⟩
  rw [firstT_get p hp] at hk
  split at hk
  · simp only [Option.some.injEq] at hk; subst hk; exact kstart_ok
  · cases hk
theorem firstT_under (p : LProg) (hp : 0 < p.code.length) : Under p (firstT p) := by
  intro U hU k s hk
  rw [firstT_get p hp] at hk
  split at hk
  · rename_i h
    simp only [Option.some.injEq] at hk; subst hk; subst h
    exact hU.first
  · cases hk

/-! the fault that a table tells -/
def lastB (p : LProg) (k : Nat) : Bool := decide (k + 1 = p.code.length)
def boundK (p : LProg) (k : Nat) (s : KSt) (i : LIns) : Bool :=
  if i.op = 7 ∨ i.op = 9 then true
  else if i.op = 3 ∨ i.op = 4 then !lastB p k && decide (0 ≤ i.n) && decide ((ksum (kg s i.b) i.n).bits ≤ (regOf p i).log)
  else !lastB p k
def quietK (p : LProg) (s : KSt) (i : LIns) : Bool :=
  if i.op = 3 then !(kg s i.b).sec
  else if i.op = 4 then !(kg s i.b).sec && (!(kg s i.a).sec || (regOf p i).secret)
  else if i.op = 6 then !(kg s i.a).sec || (regOf p i).secret
  else if i.op = 8 then !(kg s i.a).sec && !(kg s i.b).sec
  else if i.op = 29 ∨ i.op = 30 then !(kg s i.b).sec && !(kg s i.c).sec
  else if i.op = 9 then !(kg s i.a).sec
  else true
/-- the first fault from an instruction on: (0, 0): none -/
def faultFrom (p : LProg) (T : Tab) : Nat → Nat → Int × Nat
  | 0, _ => (0, 0)
  | n + 1, k => match tg T k with
    | none => faultFrom p T n (k + 1)
    | some s => if !boundK p k s (insAt p k) then (4, k) else if !quietK p s (insAt p k) then (5, k) else faultFrom p T n (k + 1)
def faultOf (p : LProg) (T : Tab) : Int × Nat := faultFrom p T p.code.length 0
theorem faultFrom_none {p : LProg} {T : Tab} : ∀ (n k : Nat), (faultFrom p T n k).1 = 0 → ∀ j s, k ≤ j → j < k + n → tg T j = some s → boundK p j s (insAt p j) = true ∧ quietK p s (insAt p j) = true
  | 0, k, h, j, s, h1, h2, hj => by omega
  | n + 1, k, h, j, s, h1, h2, hj => by
    rw [faultFrom] at h
    by_cases e : j = k
    · subst e
      rw [hj] at h
      simp only at h
      split at h
      · simp at h
      · split at h
        · simp at h
        · rename_i b q
          exact ⟨by simpa using b, by simpa using q⟩
    · refine faultFrom_none n (k + 1) ?_ j s (by omega) (by omega) hj
      cases ht : tg T k with
      | none => rw [ht] at h; exact h
      | some t =>
        rw [ht] at h
        simp only at h
        split at h
        · simp at h
        · split at h
          · simp at h
          · exact h
theorem fault_none {p : LProg} {T : Tab} (hl : T.length = p.code.length) (h : (faultOf p T).1 = 0) : ∀ j s, tg T j = some s → boundK p j s (insAt p j) = true ∧ quietK p s (insAt p j) = true := fun j s hj => by
  refine faultFrom_none _ 0 h j s (by omega) ?_ hj
  rcases Nat.lt_or_ge j p.code.length with h1 | h1
  · omega
  · unfold tg at hj
    rw [List.getD_eq_getElem?_getD, List.getElem?_eq_none (by omega)] at hj
    simp at hj
end Go.Proofs.Yteiknefajlocoaa
/- Plain laws of runs with steps ahead of time: what is done ahead of time is taken back; without choices nothing is done ahead. No program in sight. -/
namespace Go.Proofs.Yteiknefajlocoaa
open Go.RowKit
set_option linter.unusedSimpArgs false
set_option linter.unusedVariables false

/-! without choices -/
end Go.Proofs.Yteiknefajlocoaa
/- Two runs with steps ahead of time show the same, where all places that they come to are alike in what is public. No program in sight. -/
namespace Go.Proofs.Yteiknefajlocoaa
open Go.RowKit
set_option linter.unusedSimpArgs false
set_option linter.unusedVariables false

/-! an instruction, by what it does to a place -/
def isWord (i : LIns) : Bool := isPut i || isTake i
def wordN (p : LProg) (i : LIns) (a : Plc) : Int := wrap64 (baseOf p i.c.toNat + idxOf a.regs i)
def thereB (p : LProg) (i : LIns) (a : Plc) : Bool := decide (0 ≤ wordN p i a) && decide (wordN p i a < a.words.length)
def seesP (p : LProg) (i : LIns) (a : Plc) : List LSee :=
  if i.op = 7 ∨ i.op = 8 ∨ i.op = 9 ∨ i.op = 12 then [] else if isWord i then [⟨2, wordN p i a, putN i⟩] else plainS a.regs i
def usesC (p : LProg) (i : LIns) (a : Plc) : Bool := decide (i.op = 8) || (isTake i && thereB p i a)
def rightP (p : LProg) (i : LIns) (a : Plc) : Plc :=
  if i.op = 7 then { a with at_ := i.n.toNat }
  else if i.op = 8 then { a with at_ := if nholds i.c (rg a.regs i.a) (rg a.regs i.b) then i.n.toNat else a.at_ + 1 }
  else if i.op = 9 ∨ i.op = 12 then { a with at_ := a.at_ + 1 }
  else if isPut i then
    (if thereB p i a then { a with at_ := a.at_ + 1, past := a.past.set (wordN p i a).toNat (a.past.getD (wordN p i a).toNat [] ++ [a.words.getD (wordN p i a).toNat 0]), words := a.words.set (wordN p i a).toNat (rg a.regs i.a) }
    else { a with at_ := a.at_ + 1 })
  else if isTake i then { a with at_ := a.at_ + 1, regs := rset a.regs i.a (if thereB p i a then a.words.getD (wordN p i a).toNat 0 else 0) }
  else { a with at_ := a.at_ + 1, regs := plainR a.regs i }
def wrongP (p : LProg) (i : LIns) (a : Plc) (c : Int) : Option Plc :=
  if i.op = 8 then (if c = 0 then none else some { a with at_ := if nholds i.c (rg a.regs i.a) (rg a.regs i.b) then a.at_ + 1 else i.n.toNat })
  else if isTake i && thereB p i a then
    (if 0 < c ∧ c ≤ (a.past.getD (wordN p i a).toNat []).length then
      some { a with at_ := a.at_ + 1, regs := rset (rset a.regs i.a (a.words.getD (wordN p i a).toNat 0)) i.a ((a.past.getD (wordN p i a).toNat []).getD ((a.past.getD (wordN p i a).toNat []).length - c.toNat) 0) }
    else none)
  else none
theorem word_ops {i : LIns} (h : isWord i = true) : i.op = 3 ∨ i.op = 4 ∨ i.op = 5 ∨ i.op = 6 := by
  simp only [isWord, isPut, isTake, Bool.or_eq_true, decide_eq_true_eq] at h
  omega
/-- WHAT IS ASKED of two kinds of places that two runs come to: where they are not ahead of time (IN), and where they are (IA). -/
structure Sys (p : LProg) (C : Int → Prop) (IN IA : Plc → Plc → Prop) (End : List Int → List Int → Prop) : Prop where
  at_ : ∀ a b, IA a b → a.at_ = b.at_
  inc : ∀ a b, IN a b → IA a b
  mem : ∀ a b, IN a b → End a.words b.words
  uses : ∀ a b i, IA a b → p.code[a.at_]? = some i → usesC p i a = usesC p i b
  sees : ∀ a b i, IA a b → p.code[a.at_]? = some i → seesP p i a = seesP p i b
  wrong : ∀ a b i c, IA a b → p.code[a.at_]? = some i → C c → (wrongP p i a c = none ∧ wrongP p i b c = none) ∨ ∃ x y, wrongP p i a c = some x ∧ wrongP p i b c = some y ∧ IA x y
  right : ∀ a b i, IA a b → p.code[a.at_]? = some i → i.op ≠ 9 → i.op ≠ 12 → IA (rightP p i a) (rightP p i b)
  rightN : ∀ a b i, IN a b → p.code[a.at_]? = some i → i.op ≠ 9 → IN (rightP p i a) (rightP p i b)
  inside : ∀ a b i, IN a b → p.code[a.at_]? = some i → isWord i = true → insideB p i (idxOf a.regs i) = true ∧ insideB p i (idxOf b.regs i) = true
  halt : ∀ a b i, IN a b → p.code[a.at_]? = some i → i.op = 9 → rg a.regs i.a = rg b.regs i.a
section
variable {p : LProg} {C : Int → Prop} {IN IA : Plc → Plc → Prop} {End : List Int → List Int → Prop} {s t : Spc}
end
end Go.Proofs.Yteiknefajlocoaa
/- Words of all regions in one row, and region by region. No memory, no program in sight. -/
namespace Go.Proofs.Yteiknefajlocoaa
open Go.RowKit
set_option linter.unusedSimpArgs false
set_option linter.unusedVariables false

/-- the words of each region, out of one row -/
def splitW (p : LProg) (ws : List Int) : List (List Int) := (List.range p.regs.length).map fun k => (ws.drop (baseOf p k)).take (wordsOf (p.regs.getD k default))
theorem split_len (p : LProg) (ws : List Int) : (splitW p ws).length = p.regs.length := by simp [splitW]
theorem split_get {p : LProg} (ws : List Int) {k : Nat} (hk : k < p.regs.length) : (splitW p ws).getD k default = (ws.drop (baseOf p k)).take (wordsOf (p.regs.getD k default)) := by
  simp [splitW, hk]
theorem base_zero (p : LProg) : baseOf p 0 = 0 := by simp [baseOf]
theorem base_succ (p : LProg) {k : Nat} (hk : k < p.regs.length) : baseOf p (k + 1) = baseOf p k + wordsOf (p.regs.getD k default) := by
  unfold baseOf
  rw [List.map_take, List.map_take, sum_take_succ _ k (by simpa using hk)]
  simp [hk]
theorem base_all (p : LProg) {k : Nat} (hk : p.regs.length ≤ k) : baseOf p k = total p := by
  unfold baseOf total
  rw [List.take_of_length_le hk]
theorem base_mono (p : LProg) {j k : Nat} (h : j ≤ k) : baseOf p j ≤ baseOf p k := by
  induction h with
  | refl => exact Nat.le_refl _
  | @step k hk ih =>
    by_cases hl : k < p.regs.length
    · rw [base_succ p hl]; omega
    · rw [base_all p (k := k + 1) (by omega), ← base_all p (k := k) (by omega)]; exact ih
theorem split_row {p : LProg} {ws : List Int} (hl : ws.length = total p) {k : Nat} (hk : k < p.regs.length) : ((splitW p ws).getD k default).length = wordsOf (p.regs.getD k default) := by
  rw [split_get ws hk, List.length_take, List.length_drop]
  have := base_end p k hk
  omega
theorem split_at {p : LProg} (ws : List Int) {c x : Nat} (hc : c < p.regs.length) (hx : x < wordsOf (p.regs.getD c default)) : ((splitW p ws).getD c default).getD x 0 = ws.getD (baseOf p c + x) 0 := by
  rw [split_get ws hc]
  generalize wordsOf (p.regs.getD c default) = W at *
  rw [List.getD_eq_getElem?_getD, List.getD_eq_getElem?_getD, List.getElem?_take, if_pos hx, List.getElem?_drop]
theorem split_set {p : LProg} (ws : List Int) {c x : Nat} (hc : c < p.regs.length) (hx : x < wordsOf (p.regs.getD c default)) (v : Int) :
    splitW p (ws.set (baseOf p c + x) v) = (splitW p ws).set c (((splitW p ws).getD c default).set x v) := by
  apply List.ext_getElem?
  intro k
  by_cases hk : k < p.regs.length
  · have e1 : ∀ us : List Int, (splitW p us)[k]? = some ((us.drop (baseOf p k)).take (wordsOf (p.regs.getD k default))) := by
      intro us
      simp [splitW, hk]
    rw [e1, List.getElem?_set]
    by_cases hck : c = k
    · subst hck
      rw [if_pos rfl, if_pos (by rw [split_len]; exact hc), split_get ws hc]
      congr 1
      apply List.ext_getElem?
      intro j
      rw [List.getElem?_take, List.getElem?_drop, List.getElem?_set, List.getElem?_set, List.getElem?_take, List.getElem?_drop, List.length_take, List.length_drop]
      by_cases hj : x = j
      · subst hj
        rw [if_pos hx, if_pos rfl, if_pos rfl]
        by_cases hl : baseOf p c + x < ws.length
        · rw [if_pos hl, if_pos (by rw [Nat.lt_min]; omega)]
        · rw [if_neg hl, if_neg (by rw [Nat.lt_min]; omega)]
      · rw [if_neg (show ¬ baseOf p c + x = baseOf p c + j by omega), if_neg hj]
    · rw [if_neg hck, e1]
      congr 1
      apply List.ext_getElem?
      intro j
      rw [List.getElem?_take, List.getElem?_take, List.getElem?_drop, List.getElem?_drop]
      by_cases hj : j < wordsOf (p.regs.getD k default)
      · rw [if_pos hj, if_pos hj, List.getElem?_set]
        have hne : ¬ baseOf p c + x = baseOf p k + j := by
          rcases Nat.lt_or_ge c k with h | h
          · have h1 := base_mono p (show c + 1 ≤ k by omega)
            rw [base_succ p hc] at h1
            omega
          · have h1 := base_mono p (show k + 1 ≤ c by omega)
            rw [base_succ p hk] at h1
            omega
        rw [if_neg hne]
      · rw [if_neg hj, if_neg hj]
  · rw [List.getElem?_eq_none (by rw [split_len]; omega), List.getElem?_eq_none (by rw [List.length_set, split_len]; omega)]
theorem fits_len {p : LProg} {m : List (List Int)} (h : fitsOk p m = true) : m.length = p.regs.length ∧ ∀ k, k < p.regs.length → (m.getD k default).length = wordsOf (p.regs.getD k default) := by
  simp only [fitsOk, Bool.and_eq_true, decide_eq_true_eq, List.all_eq_true, List.mem_range] at h
  exact ⟨h.1.2, h.2⟩
theorem flat_take {p : LProg} {m : List (List Int)} (h : fitsOk p m = true) : ∀ k, k ≤ p.regs.length → (m.take k).flatten.length = baseOf p k := by
  obtain ⟨h1, h2⟩ := fits_len h
  intro k
  induction k with
  | zero => intro _; simp [base_zero]
  | succ k ih =>
    intro hk
    rw [List.take_succ_eq_append_getElem (by omega), List.flatten_append, List.length_append, ih (by omega), base_succ p (by omega), ← h2 k (by omega)]
    simp [show k < m.length by omega]
theorem flat_total {p : LProg} {m : List (List Int)} (h : fitsOk p m = true) : m.flatten.length = total p := by
  have := flat_take h p.regs.length (Nat.le_refl _)
  rw [base_all p (Nat.le_refl _), List.take_of_length_le (by have := (fits_len h).1; omega)] at this
  exact this
theorem split_flat {p : LProg} {m : List (List Int)} (h : fitsOk p m = true) : splitW p m.flatten = m := by
  obtain ⟨h1, h2⟩ := fits_len h
  apply List.ext_getElem?
  intro k
  by_cases hk : k < p.regs.length
  · have hm : k < m.length := by omega
    have e : m = m.take k ++ m[k] :: m.drop (k + 1) := by simp
    have hb := flat_take h k (by omega)
    have hw := h2 k hk
    have eg : m.getD k default = m[k] := by simp [hm]
    rw [eg] at hw
    have e2 : (splitW p m.flatten)[k]? = some ((m.flatten.drop (baseOf p k)).take (wordsOf (p.regs.getD k default))) := by simp [splitW, hk]
    rw [e2, List.getElem?_eq_getElem hm]
    congr 1
    have e3 : m.flatten = (m.take k).flatten ++ (m[k] ++ (m.drop (k + 1)).flatten) := by
      conv => lhs; rw [e]
      rw [List.flatten_append, List.flatten_cons]
    rw [e3, ← hb, List.drop_left, ← hw, List.take_left]
  · rw [List.getElem?_eq_none (by rw [split_len]; omega), List.getElem?_eq_none (by omega)]
theorem words_all (p : LProg) (ws : List Int) (P : Int → Prop) (h : ∀ x ∈ ws, P x) : ∀ l ∈ splitW p ws, ∀ x ∈ l, P x := by
  intro l hl x hx
  simp only [splitW, List.mem_map, List.mem_range] at hl
  obtain ⟨k, _, rfl⟩ := hl
  exact h x (List.mem_of_mem_drop (List.mem_of_mem_take hx))
end Go.Proofs.Yteiknefajlocoaa
/- How much is known, as a number: it grows as states are joined. No program in sight. -/
namespace Go.Proofs.Yteiknefajlocoaa
open Go
set_option linter.unusedVariables false
set_option linter.unusedSimpArgs false

def rk (k : LKn) : Nat := k.bits.toNat + (if k.sec = true then 1 else 0)
def rank (s : KSt) : Nat := (s.map rk).sum
def ph (o : Option KSt) : Nat := match o with | none => 145 | some s => 144 - rank s
def phi (T : Tab) : Nat := (T.map ph).sum
def meas (T : Tab) (wk : List Int) : Nat := 3 * phi T + wk.length
theorem rk_le {k : LKn} (h : Kok k) : rk k ≤ 18 := by
  unfold rk
  have h1 := h.1
  have h2 := h.2
  split <;> omega
theorem rk_mono {a b : LKn} (ha : Kok a) (hb : Kok b) (h : Kle a b) : rk a ≤ rk b ∧ (rk a = rk b → a = b) := by
  have a0 := ha.1
  have b0 := hb.1
  obtain ⟨h1, h2⟩ := h
  obtain ⟨ab, sa⟩ := a
  obtain ⟨bb, sb⟩ := b
  simp only at a0 b0 h1 h2
  unfold rk
  cases sa <;> cases sb <;> simp at h2 ⊢ <;> omega
theorem rank_mono : ∀ (s t : KSt), s.length = t.length → (∀ r : Nat, Kok (s.getD r default)) → (∀ r : Nat, Kok (t.getD r default)) → Sle s t → rank s ≤ rank t ∧ (rank s = rank t → s = t)
  | [], [], _, _, _, _ => ⟨Nat.le_refl _, fun _ => rfl⟩
  | [], _ :: _, h, _, _, _ => by simp at h
  | _ :: _, [], h, _, _, _ => by simp at h
  | a :: s, b :: t, h, ha, hb, hl => by
    have i := rank_mono s t (by simpa using h) (fun r => by simpa using ha (r + 1)) (fun r => by simpa using hb (r + 1)) (fun r => by simpa using hl (r + 1))
    have j := rk_mono (a := a) (b := b) (by simpa using ha 0) (by simpa using hb 0) (by simpa using hl 0)
    unfold rank at *
    simp only [List.map_cons, List.sum_cons]
    refine ⟨by omega, fun e => ?_⟩
    rw [j.2 (by omega), i.2 (by omega)]
theorem rank_bd : ∀ (s : KSt), (∀ r : Nat, Kok (s.getD r default)) → rank s ≤ 18 * s.length
  | [], _ => by simp [rank]
  | a :: s, h => by
    have i := rank_bd s (fun r => by simpa using h (r + 1))
    have j := rk_le (k := a) (by simpa using h 0)
    unfold rank at *
    simp only [List.map_cons, List.sum_cons, List.length_cons]
    omega
theorem rank_144 {s : KSt} (h : Sok s) : rank s ≤ 144 := by
  have := rank_bd s h.ok
  rw [h.len] at this
  omega
theorem phi_set : ∀ (T : Tab) (k : Nat) (o : Option KSt), k < T.length → phi (T.set k o) + ph (tg T k) = phi T + ph o
  | [], k, o, h => by simp at h
  | a :: T, 0, o, h => by
    simp only [phi, tg, List.set_cons_zero, List.map_cons, List.sum_cons, List.getD_cons_zero]
    omega
  | a :: T, k + 1, o, h => by
    have := phi_set T k o (by simpa using h)
    simp only [phi, tg, List.set_cons_succ, List.map_cons, List.sum_cons, List.getD_cons_succ] at *
    omega
theorem phi_le : ∀ (T : Tab), phi T ≤ 145 * T.length
  | [] => by simp [phi]
  | a :: T => by
    have i := phi_le T
    have : ph a ≤ 145 := by
      cases a with
      | none => simp [ph]
      | some s => simp only [ph]; omega
    simp only [phi, List.map_cons, List.sum_cons, List.length_cons] at *
    omega
theorem tg_same {T : Tab} {k : Nat} {o : Option KSt} (h : tg T k = o) (hk : k < T.length) : T.set k o = T := by
  subst h
  apply List.ext_getElem (by simp)
  intro j h1 h2
  rw [List.getElem_set]
  split
  · rename_i e; subst e; simp [tg, hk]
  · rfl
end Go.Proofs.Yteiknefajlocoaa
