/- Laid together from: NumP, Sem, SemL, SpecL, Quiet, Flat. -/
import Derived.WalkKit
import Derived.Laws.BitsAllLaws
import Derived.Laws.BitsLemmas
import Derived.Test.YtiiollmbogojoaaHardenQuietB1

namespace Go.Proofs.Ytiiollmbogojoaa
open Go.RowKit
def u64 (n : Int) : Int := n % 18446744073709551616
def sh (b : Int) : Nat := (b % 64).toNat
def nop (op a b : Int) : Int :=
  if op = 1 then wrap64 (a + b) else if op = 2 then wrap64 (a - b) else if op = 3 then wrap64 (a * b)
  else if op = 4 then bits .and .i64 a b else if op = 5 then bits .or .i64 a b else if op = 6 then bits .xor .i64 a b
  else if op = 7 then wrap64 (u64 a * 2 ^ sh b) else if op = 8 then wrap64 (u64 a / 2 ^ sh b)
  else if op = 9 then (if u64 b = 0 then 0 else wrap64 (u64 a / u64 b))
  else if op = 10 then (if u64 b = 0 then a else wrap64 (u64 a % u64 b)) else 0
def nholds (c a b : Int) : Bool :=
  (c == 1 && a == b) || (c == 2 && a != b) || (c == 3 && decide (u64 a < u64 b)) || (c == 4 && !decide (u64 a < u64 b))
theorem i64_is (n : Int) : IntKind.i64.wrap n = wrap64 n := IntWalk.i64_left n
theorem u64_nonneg (n : Int) : 0 ≤ u64 n := by unfold u64; omega
theorem u64_lt (n : Int) : u64 n < 18446744073709551616 := by unfold u64; omega
theorem sh_lt (b : Int) : sh b < 64 := by unfold sh; omega
structure LSee where
  kind : Int
  a : Int
  b : Int
  deriving DecidableEq, Inhabited
def rg (r : List Int) (i : Int) : Int := r.getD i.toNat 0
def rset (r : List Int) (i v : Int) : List Int := r.set i.toNat v
def baseOf (p : LProg) (r : Nat) : Nat := ((p.regs.take r).map wordsOf).sum
def total (p : LProg) : Nat := (p.regs.map wordsOf).sum
def regOf (p : LProg) (i : LIns) : LReg := p.regs.getD i.c.toNat default
def isPut (i : LIns) : Bool := decide (i.op = 4) || decide (i.op = 6)
def isTake (i : LIns) : Bool := decide (i.op = 3) || decide (i.op = 5)
def putN (i : LIns) : Int := if isPut i then 1 else 0
def idxOf (r : List Int) (i : LIns) : Int := if i.op = 5 ∨ i.op = 6 then i.n else wrap64 (rg r i.b + i.n)
def insideB (p : LProg) (i : LIns) (x : Int) : Bool := decide (0 ≤ x) && decide (x < (wordsOf (regOf p i) : Nat))
def plainR (r : List Int) (i : LIns) : List Int :=
  if i.op = 1 then rset r i.a i.n
  else if i.op = 2 then rset r i.a (rg r i.b)
  else if i.op = 10 then rset r i.a (wrap64 (rg r i.b + i.n))
  else if i.op = 11 then (if rg r i.a < 0 ∨ i.n ≤ rg r i.a then rset r i.a 0 else r)
  else if i.op = 12 then r
  else rset r i.a (nop (i.op - 20) (rg r i.b) (rg r i.c))
def plainS (r : List Int) (i : LIns) : List LSee := if i.op = 29 ∨ i.op = 30 then [⟨3, rg r i.b, rg r i.c⟩] else []
structure Mach where
  regs : List Int
  words : List Int
  at_ : Nat
  fin : Int
  value : Int
  steps : Nat
  seen : List LSee
  deriving DecidableEq, Inhabited
structure Plc where
  regs : List Int
  words : List Int
  past : List (List Int)
  at_ : Nat
  deriving DecidableEq, Inhabited
structure Spc where
  pl : Plc
  fin : Int
  value : Int
  steps : Nat
  seen : List LSee
  script : List Int
  ahead : Bool
  since : Int
  back : Plc
  deriving DecidableEq, Inhabited
def startS (ws script : List Int) : Spc := ⟨⟨List.replicate 10 0, ws, List.replicate ws.length [], 0⟩, 0, 0, 0, [], script, false, 0, ⟨[], [], [], 0⟩⟩
def Spc.choice (s : Spc) : Int := s.script.headD 0
def Spc.chosen (s : Spc) : Spc := { s with script := s.script.tail }
def Spc.leave (s : Spc) : Spc := if s.ahead then s else { s with ahead := true, since := -1, back := s.pl }
def Spc.returns (s : Spc) : Spc := { s with seen := s.seen ++ [⟨4, 0, 0⟩], ahead := false, pl := s.back }
def Spc.goTo (s : Spc) (k : Nat) : Spc := { s with pl := { s.pl with at_ := k } }
def Spc.put_ (s : Spc) (a v : Int) : Spc := { s with pl := { s.pl with regs := rset s.pl.regs a v } }
def branchS (i : LIns) (s : Spc) : Spc :=
  let h := nholds i.c (rg s.pl.regs i.a) (rg s.pl.regs i.b)
  let right := if h then i.n.toNat else s.pl.at_ + 1
  let wrong := if h then s.pl.at_ + 1 else i.n.toNat
  let s1 := (s.goTo right).chosen
  if s.choice = 0 then s1 else s1.leave.goTo wrong
def takeS (i : LIns) (n : Nat) (s : Spc) : Spc :=
  let l := s.pl.past.getD n []
  let c := s.choice
  let s1 := ((s.goTo (s.pl.at_ + 1)).chosen).put_ i.a (s.pl.words.getD n 0)
  if 0 < c ∧ c ≤ l.length then s1.leave.put_ i.a (l.getD (l.length - c.toNat) 0) else s1
def wordS (p : LProg) (i : LIns) (s : Spc) : Spc :=
  let x := idxOf s.pl.regs i
  if !insideB p i x && !s.ahead then { s with fin := 2 }
  else
    let n := wrap64 (baseOf p i.c.toNat + x)
    let s1 := { s with seen := s.seen ++ [⟨2, n, putN i⟩] }
    if 0 ≤ n ∧ n < s.pl.words.length then
      if isPut i then { s1 with pl := { s1.pl with at_ := s1.pl.at_ + 1, past := s1.pl.past.set n.toNat (s1.pl.past.getD n.toNat [] ++ [s1.pl.words.getD n.toNat 0]), words := s1.pl.words.set n.toNat (rg s1.pl.regs i.a) } }
      else takeS i n.toNat s1
    else
      let s2 := s1.goTo (s1.pl.at_ + 1)
      if isPut i then s2 else s2.put_ i.a 0
def doS (p : LProg) (i : LIns) (s : Spc) : Spc :=
  if i.op = 7 then s.goTo i.n.toNat
  else if i.op = 8 then branchS i s
  else if i.op = 9 then (if s.ahead then s.goTo (s.pl.at_ + 1) else { s with fin := 1, value := rg s.pl.regs i.a })
  else if i.op = 12 then s.goTo (s.pl.at_ + 1)
  else if isPut i || isTake i then wordS p i s
  else { s with seen := s.seen ++ plainS s.pl.regs i, pl := { s.pl with regs := plainR s.pl.regs i, at_ := s.pl.at_ + 1 } }
def overS (i : LIns) (s : Spc) : Bool := (decide (i.op = 9) && s.ahead) || decide (i.op = 12)
def stepS (p : LProg) (i : LIns) (s : Spc) : Spc :=
  let s0 := { s with steps := s.steps + 1, seen := s.seen ++ [⟨1, s.pl.at_, 0⟩] }
  let s1 := doS p i s0
  if s1.ahead then
    let s2 := { s1 with since := s1.since + 1 }
    if overS i s || decide (s2.since = 12) then s2.returns else s2
  else s1
def upS (p : LProg) (s : Spc) : Spc := if s.ahead ∧ p.code.length ≤ s.pl.at_ then s.returns else s
def runS (p : LProg) : Nat → Spc → Spc
  | 0, s => s
  | k + 1, s =>
    if s.fin ≠ 0 then s
    else match p.code[(upS p s).pl.at_]? with
      | none => { upS p s with fin := 2 }
      | some i => runS p k (stepS p i (upS p s))
def endS (s : Spc) : Spc := if s.ahead then { s with pl := s.back } else s
theorem sum_take_le (l : List Nat) : ∀ k : Nat, (l.take k).sum ≤ l.sum := by
  induction l with
  | nil => intro k; simp
  | cons a l ih =>
    intro k
    cases k with
    | zero => simp
    | succ k => have := ih k; simp; omega
theorem sum_take_succ (l : List Nat) : ∀ k : Nat, k < l.length → (l.take (k + 1)).sum = (l.take k).sum + l.getD k 0 := by
  induction l with
  | nil => intro k hk; simp at hk
  | cons a l ih =>
    intro k hk
    cases k with
    | zero => simp
    | succ k =>
      have := ih k (by simpa using hk)
      simp only [List.take_succ_cons, List.sum_cons, List.getD_cons_succ]
      omega
theorem base_end (p : LProg) (r : Nat) (hr : r < p.regs.length) : baseOf p r + wordsOf (p.regs.getD r default) ≤ total p := by
  have h1 := sum_take_succ (p.regs.map wordsOf) r (by simpa using hr)
  have h2 := sum_take_le (p.regs.map wordsOf) (r + 1)
  unfold baseOf total
  rw [← List.map_take] at h1
  have : (List.map wordsOf p.regs).getD r 0 = wordsOf (p.regs.getD r default) := by simp [hr]
  rw [this, List.map_take] at h1
  rw [List.map_take]
  omega
theorem sum_le (l : List Nat) (n : Nat) (h : ∀ x ∈ l, x ≤ n) : l.sum ≤ l.length * n := by
  induction l with
  | nil => simp
  | cons a l ih =>
    have h1 := h a (by simp)
    have h2 := ih fun x hx => h x (by simp [hx])
    simp only [List.sum_cons, List.length_cons, Nat.succ_mul]
    omega
theorem words_le (r : LReg) (h : r.log ≤ 6) : wordsOf r ≤ 64 := by
  unfold wordsOf
  exact Nat.le_trans (Nat.pow_le_pow_right (by omega) (show r.log.toNat ≤ 6 by omega)) (by decide)
theorem words_pos (r : LReg) : 0 < wordsOf r := Nat.two_pow_pos _
theorem regsOk_log {l : List LReg} (h : regsOk l = true) : ∀ r ∈ l, 0 ≤ r.log ∧ r.log ≤ 6 := by
  intro r hr
  simp only [regsOk, Bool.and_eq_true, List.all_eq_true] at h
  have := h.1 r hr
  simpa [regOk] using this
theorem regsOk_len {l : List LReg} (h : regsOk l = true) : l.length ≤ 6 := by
  simp only [regsOk, Bool.and_eq_true, decide_eq_true_eq] at h
  exact h.2
theorem total_le {p : LProg} (h : regsOk p.regs = true) : total p ≤ 384 := by
  have h1 := sum_le (p.regs.map wordsOf) 64 fun x hx => by
    simp only [List.mem_map] at hx
    obtain ⟨r, hr, rfl⟩ := hx
    exact words_le r (regsOk_log h r hr).2
  have h2 := regsOk_len h
  unfold total
  simp only [List.length_map] at h1
  omega
theorem base_le (p : LProg) (r : Nat) : baseOf p r ≤ total p := by
  have := sum_take_le (p.regs.map wordsOf) r
  rw [← List.map_take] at this
  exact this
theorem hard_parts {p : LProg} (h : hardOk p = true) : regsOk p.regs = true ∧ 1 ≤ p.code.length ∧ p.code.length ≤ 8000 ∧ ∀ i ∈ p.code, insOk p 10 i = true := by
  simp only [hardOk, progOk, Bool.and_eq_true, decide_eq_true_eq, List.all_eq_true] at h
  exact ⟨h.1.1.1, h.1.1.2, by have := h.1.2; omega, h.2⟩
theorem may_parts {p : LProg} (h : mayOk p = true) : regsOk p.regs = true ∧ 1 ≤ p.code.length ∧ p.code.length ≤ 200 ∧ ∀ i ∈ p.code, insOk p 8 i = true := by
  simp only [mayOk, progOk, Bool.and_eq_true, decide_eq_true_eq, List.all_eq_true] at h
  exact ⟨h.1.1.1, h.1.1.2, by have := h.1.2; omega, h.2⟩
theorem okIn_mono {a b n : Int} (h : a ≤ b) (k : okIn a n = true) : okIn b n = true := by
  simp only [okIn, Bool.and_eq_true, decide_eq_true_eq] at *
  omega
theorem insOk_mono {p : LProg} {R S : Int} (h : R ≤ S) {i : LIns} (k : insOk p R i = true) : insOk p S i = true := by
  have f := fun n => @okIn_mono R S n h
  simp only [insOk] at *
  repeat' (split at k)
  all_goals simp_all
theorem region_there {p : LProg} {R : Int} {i : LIns} (k : insOk p R i = true) (hw : (isPut i || isTake i) = true) : 0 ≤ i.c ∧ i.c.toNat < p.regs.length := by
  simp only [isPut, isTake, Bool.or_eq_true, decide_eq_true_eq] at hw
  have hop : i.op = 3 ∨ i.op = 4 ∨ i.op = 5 ∨ i.op = 6 := by omega
  simp only [insOk] at k
  rcases hop with h | h | h | h <;> simp [h, okIn] at k <;> omega
theorem idx_small {p : LProg} {i : LIns} {x : Int} (hp : regsOk p.regs = true) (hc : i.c.toNat < p.regs.length) (hx : insideB p i x = true) :
    0 ≤ x ∧ baseOf p i.c.toNat + x.toNat < total p ∧ total p ≤ 384 ∧ wrap64 (baseOf p i.c.toNat + x) = (baseOf p i.c.toNat + x.toNat : Nat) := by
  simp only [insideB, Bool.and_eq_true, decide_eq_true_eq] at hx
  unfold regOf at hx
  have h1 := base_end p i.c.toNat hc
  have h2 := total_le hp
  have h3 := hx.1
  have h4 := hx.2
  refine ⟨hx.1, by omega, h2, ?_⟩
  unfold wrap64
  omega
section
variable (s : Spc)
@[simp] theorem leave_steps : s.leave.steps = s.steps := by unfold Spc.leave; split <;> rfl
@[simp] theorem leave_fin : s.leave.fin = s.fin := by unfold Spc.leave; split <;> rfl
@[simp] theorem leave_value : s.leave.value = s.value := by unfold Spc.leave; split <;> rfl
@[simp] theorem leave_seen : s.leave.seen = s.seen := by unfold Spc.leave; split <;> rfl
@[simp] theorem leave_script : s.leave.script = s.script := by unfold Spc.leave; split <;> rfl
@[simp] theorem leave_pl : s.leave.pl = s.pl := by unfold Spc.leave; split <;> rfl
@[simp] theorem leave_ahead : s.leave.ahead = true := by unfold Spc.leave; split <;> simp_all
@[simp] theorem leave_back : s.leave.back = if s.ahead then s.back else s.pl := by unfold Spc.leave; split <;> rfl
@[simp] theorem leave_since : s.leave.since = if s.ahead then s.since else -1 := by unfold Spc.leave; split <;> rfl
end
theorem branchS_steps (i : LIns) (s : Spc) : (branchS i s).steps = s.steps := by
  simp only [branchS]
  split <;> simp [Spc.goTo, Spc.chosen]
theorem takeS_steps (i : LIns) (n : Nat) (s : Spc) : (takeS i n s).steps = s.steps := by
  simp only [takeS]
  split <;> simp [Spc.goTo, Spc.chosen, Spc.put_]
theorem wordS_steps (p : LProg) (i : LIns) (s : Spc) : (wordS p i s).steps = s.steps := by
  simp only [wordS]
  repeat' split
  all_goals simp [takeS_steps, Spc.goTo, Spc.put_]
theorem doS_steps (p : LProg) (i : LIns) (s : Spc) : (doS p i s).steps = s.steps := by
  simp only [doS]
  repeat' split
  all_goals simp [wordS_steps, branchS_steps, Spc.goTo]
theorem stepS_steps (p : LProg) (i : LIns) (s : Spc) : (stepS p i s).steps = s.steps + 1 := by
  simp only [stepS, Spc.returns]
  repeat' split
  all_goals simp [doS_steps]
theorem upS_steps (p : LProg) (s : Spc) : (upS p s).steps = s.steps ∧ (upS p s).fin = s.fin ∧ (upS p s).value = s.value ∧ (upS p s).script = s.script := by
  unfold upS
  split <;> simp [Spc.returns]
end Go.Proofs.Ytiiollmbogojoaa

namespace Go.Proofs.Ytiiollmbogojoaa
open Go.RowKit
set_option linter.unusedSimpArgs false
set_option linter.unusedVariables false
theorem upS_none {p : LProg} {s : Spc} (h : p.code[(upS p s).pl.at_]? = none) : (upS p s).ahead = false := by
  unfold upS at h ⊢
  split
  · rfl
  · rename_i hn
    rw [if_neg hn] at h
    cases ha : s.ahead
    · rfl
    · exact absurd ⟨ha, List.getElem?_eq_none_iff.1 h⟩ hn
def isWord (i : LIns) : Bool := isPut i || isTake i
def wordN (p : LProg) (i : LIns) (a : Plc) : Int := wrap64 (baseOf p i.c.toNat + idxOf a.regs i)
def thereB (p : LProg) (i : LIns) (a : Plc) : Bool := decide (0 ≤ wordN p i a) && decide (wordN p i a < a.words.length)
def seesP (p : LProg) (i : LIns) (a : Plc) : List LSee :=
  if i.op = 7 ∨ i.op = 8 ∨ i.op = 9 ∨ i.op = 12 then [] else if isWord i then [⟨2, wordN p i a, putN i⟩] else plainS a.regs i
def usesC (p : LProg) (i : LIns) (a : Plc) : Bool := decide (i.op = 8) || (isTake i && thereB p i a)
def rightP (p : LProg) (i : LIns) (a : Plc) : Plc :=
  if i.op = 7 then { a with at_ := i.n.toNat }
  else if i.op = 8 then { a with at_ := if nholds i.c (rg a.regs i.a) (rg a.regs i.b) then i.n.toNat else a.at_ + 1 }
  else if i.op = 9 ∨ i.op = 12 then { a with at_ := a.at_ + 1 }
  else if isPut i then
    (if thereB p i a then { a with at_ := a.at_ + 1, past := a.past.set (wordN p i a).toNat (a.past.getD (wordN p i a).toNat [] ++ [a.words.getD (wordN p i a).toNat 0]), words := a.words.set (wordN p i a).toNat (rg a.regs i.a) }
    else { a with at_ := a.at_ + 1 })
  else if isTake i then { a with at_ := a.at_ + 1, regs := rset a.regs i.a (if thereB p i a then a.words.getD (wordN p i a).toNat 0 else 0) }
  else { a with at_ := a.at_ + 1, regs := plainR a.regs i }
def wrongP (p : LProg) (i : LIns) (a : Plc) (c : Int) : Option Plc :=
  if i.op = 8 then (if c = 0 then none else some { a with at_ := if nholds i.c (rg a.regs i.a) (rg a.regs i.b) then a.at_ + 1 else i.n.toNat })
  else if isTake i && thereB p i a then
    (if 0 < c ∧ c ≤ (a.past.getD (wordN p i a).toNat []).length then
      some { a with at_ := a.at_ + 1, regs := rset (rset a.regs i.a (a.words.getD (wordN p i a).toNat 0)) i.a ((a.past.getD (wordN p i a).toNat []).getD ((a.past.getD (wordN p i a).toNat []).length - c.toNat) 0) }
    else none)
  else none
def goesP (p : LProg) (i : LIns) (s : Spc) : Spc :=
  let s' := { s with seen := s.seen ++ seesP p i s.pl, pl := rightP p i s.pl, script := if usesC p i s.pl then s.script.tail else s.script }
  match wrongP p i s.pl s.choice with
  | none => s'
  | some w => { s'.leave with pl := w }
theorem word_ops {i : LIns} (h : isWord i = true) : i.op = 3 ∨ i.op = 4 ∨ i.op = 5 ∨ i.op = 6 := by
  simp only [isWord, isPut, isTake, Bool.or_eq_true, decide_eq_true_eq] at h
  omega
theorem take_goes (p : LProg) (i : LIns) (s : Spc) (hw : isTake i = true) (hp : isPut i = false) (hn : thereB p i s.pl = true) (h8 : ¬ i.op = 8) (k : Nat) (hk : (wordN p i s.pl).toNat = k) (sn : List LSee) :
    takeS i k { s with seen := sn } = (match wrongP p i s.pl s.choice with
      | none => { s with seen := sn, pl := rightP p i s.pl, script := s.script.tail }
      | some w => { ({ s with seen := sn, pl := rightP p i s.pl, script := s.script.tail } : Spc).leave with pl := w }) := by
  have h7 : ¬ i.op = 7 := by intro h; simp [isTake, h] at hw
  have h9 : ¬ (i.op = 9 ∨ i.op = 12) := by rintro (h | h) <;> simp [isTake, h] at hw
  subst hk
  have hr : rightP p i s.pl = { s.pl with at_ := s.pl.at_ + 1, regs := rset s.pl.regs i.a (s.pl.words.getD (wordN p i s.pl).toNat 0) } := by
    unfold rightP
    rw [if_neg h7, if_neg h8, if_neg h9, hp, if_neg (by simp), hw, if_pos rfl, hn, if_pos rfl]
  have hwr : wrongP p i s.pl s.choice = if 0 < s.choice ∧ s.choice ≤ (s.pl.past.getD (wordN p i s.pl).toNat []).length then
      some { s.pl with at_ := s.pl.at_ + 1, regs := rset (rset s.pl.regs i.a (s.pl.words.getD (wordN p i s.pl).toNat 0)) i.a ((s.pl.past.getD (wordN p i s.pl).toNat []).getD ((s.pl.past.getD (wordN p i s.pl).toNat []).length - s.choice.toNat) 0) } else none := by
    unfold wrongP
    rw [if_neg h8, hw, hn]
    rfl
  rw [hwr, hr]
  unfold takeS
  by_cases hc : 0 < s.choice ∧ s.choice ≤ (s.pl.past.getD (wordN p i s.pl).toNat []).length
  · rw [if_pos hc]
    refine Eq.trans (if_pos hc) ?_
    simp only [Spc.goTo, Spc.chosen, Spc.put_, Spc.leave]
    cases s.ahead <;> rfl
  · rw [if_neg hc]
    exact if_neg hc
theorem doS_goes (p : LProg) (i : LIns) (s : Spc) (h9 : i.op = 9 → s.ahead = true) (hin : isWord i = true → insideB p i (idxOf s.pl.regs i) = true ∨ s.ahead = true) : doS p i s = goesP p i s := by
  unfold doS goesP
  split
  · rename_i h
    simp [wrongP, seesP, usesC, rightP, h, Spc.goTo, isTake]
  split
  · rename_i h7 h
    have hr : rightP p i s.pl = { s.pl with at_ := if nholds i.c (rg s.pl.regs i.a) (rg s.pl.regs i.b) then i.n.toNat else s.pl.at_ + 1 } := by
      unfold rightP
      rw [if_neg h7, if_pos h]
    have hs : seesP p i s.pl = [] := by simp [seesP, h]
    have hu : usesC p i s.pl = true := by simp [usesC, h]
    rw [hr, hs, hu, if_pos rfl, List.append_nil]
    unfold branchS wrongP
    rw [if_pos h]
    by_cases hc : s.choice = 0
    · rw [if_pos hc, if_pos hc]
      rfl
    · rw [if_neg hc, if_neg hc]
      simp only [Spc.goTo, Spc.chosen, leave_pl]
  split
  · rename_i h7 h8 h
    rw [if_pos (h9 h)]
    simp [wrongP, seesP, usesC, rightP, h, Spc.goTo, isTake]
  split
  · rename_i h
    simp [wrongP, seesP, usesC, rightP, h, Spc.goTo, isTake]
  split
  · rename_i h7 h8 h9' h12 hw
    have hw' : isWord i = true := hw
    have hno : (!insideB p i (idxOf s.pl.regs i) && !s.ahead) = false := by
      rcases hin hw' with h | h <;> simp [h]
    have hs : seesP p i s.pl = [⟨2, wordN p i s.pl, putN i⟩] := by
      simp [seesP, h7, h8, h9', h12, hw']
    have e912 : ¬ (i.op = 9 ∨ i.op = 12) := by omega
    unfold wordS
    refine Eq.trans (if_neg (by rw [hno]; simp)) ?_
    rw [hs]
    by_cases hn : thereB p i s.pl = true
    · have hn' := hn
      simp only [thereB, Bool.and_eq_true, decide_eq_true_eq] at hn'
      refine Eq.trans (if_pos hn') ?_
      cases hp : isPut i
      · have ht : isTake i = true := by simpa [hp] using hw
        rw [if_neg (by simp)]
        have := take_goes p i s ht hp hn h8 (wrap64 (baseOf p i.c.toNat + idxOf s.pl.regs i)).toNat rfl (s.seen ++ [⟨2, wordN p i s.pl, putN i⟩])
        rw [show usesC p i s.pl = true by simp [usesC, ht, hn], if_pos rfl]
        exact this
      · have ht : isTake i = false := by
          rcases word_ops hw' with h | h | h | h <;> simp [isPut, isTake, h] at hp ⊢
        have hwr : wrongP p i s.pl s.choice = none := by
          unfold wrongP; rw [if_neg h8, ht]; rfl
        have hu : usesC p i s.pl = false := by simp [usesC, ht, h8]
        rw [hwr, hu, if_pos rfl, if_neg (by simp)]
        unfold rightP
        rw [if_neg h7, if_neg h8, if_neg e912, hp, if_pos rfl, hn, if_pos rfl]
        rfl
    · have hn1 : thereB p i s.pl = false := by simpa using hn
      have hn2 : ¬ (0 ≤ wrap64 (baseOf p i.c.toNat + idxOf s.pl.regs i) ∧ wrap64 (baseOf p i.c.toNat + idxOf s.pl.regs i) < s.pl.words.length) := by
        intro h
        apply hn
        simp only [thereB, Bool.and_eq_true, decide_eq_true_eq]
        exact h
      refine Eq.trans (if_neg hn2) ?_
      have hwr : wrongP p i s.pl s.choice = none := by
        unfold wrongP; rw [if_neg h8, hn1, Bool.and_false]; rfl
      have hu : usesC p i s.pl = false := by simp [usesC, hn1, h8]
      rw [hwr, hu]
      unfold rightP
      rw [if_neg h7, if_neg h8, if_neg e912, hn1]
      cases hp : isPut i
      · have ht : isTake i = true := by simpa [hp] using hw
        rw [ht]
        rfl
      · rfl
  · rename_i h7 h8 h9' h12 hw
    have hpt : isPut i = false ∧ isTake i = false := by simpa using hw
    have hw' : isWord i = false := by simp [isWord, hpt]
    simp [wrongP, seesP, usesC, rightP, h7, h8, h9', h12, hpt, hw']
structure Sys (p : LProg) (C : Int → Prop) (IN IA : Plc → Plc → Prop) (End : List Int → List Int → Prop) : Prop where
  at_ : ∀ a b, IA a b → a.at_ = b.at_
  inc : ∀ a b, IN a b → IA a b
  mem : ∀ a b, IN a b → End a.words b.words
  uses : ∀ a b i, IA a b → p.code[a.at_]? = some i → usesC p i a = usesC p i b
  sees : ∀ a b i, IA a b → p.code[a.at_]? = some i → seesP p i a = seesP p i b
  wrong : ∀ a b i c, IA a b → p.code[a.at_]? = some i → C c → (wrongP p i a c = none ∧ wrongP p i b c = none) ∨ ∃ x y, wrongP p i a c = some x ∧ wrongP p i b c = some y ∧ IA x y
  right : ∀ a b i, IA a b → p.code[a.at_]? = some i → i.op ≠ 9 → i.op ≠ 12 → IA (rightP p i a) (rightP p i b)
  rightN : ∀ a b i, IN a b → p.code[a.at_]? = some i → i.op ≠ 9 → IN (rightP p i a) (rightP p i b)
  inside : ∀ a b i, IN a b → p.code[a.at_]? = some i → isWord i = true → insideB p i (idxOf a.regs i) = true ∧ insideB p i (idxOf b.regs i) = true
  halt : ∀ a b i, IN a b → p.code[a.at_]? = some i → i.op = 9 → rg a.regs i.a = rg b.regs i.a
structure SRel (C : Int → Prop) (IN IA : Plc → Plc → Prop) (End : List Int → List Int → Prop) (s t : Spc) : Prop where
  fin : s.fin = t.fin
  value : s.value = t.value
  steps : s.steps = t.steps
  seen : s.seen = t.seen
  script : s.script = t.script
  ahead : s.ahead = t.ahead
  since : s.since = t.since
  choices : C 0 ∧ ∀ c ∈ s.script, C c
  on : s.ahead = false → s.fin = 0 → IN s.pl t.pl
  end_ : s.fin ≠ 0 → s.ahead = false ∧ End s.pl.words t.pl.words
  ah : s.ahead = true → s.fin = 0 ∧ IA s.pl t.pl ∧ IN s.back t.back
section
variable {p : LProg} {C : Int → Prop} {IN IA : Plc → Plc → Prop} {End : List Int → List Int → Prop} {s t : Spc}
theorem srel_up (h : SRel C IN IA End s t) (sys : Sys p C IN IA End) (h0 : s.fin = 0) : SRel C IN IA End (upS p s) (upS p t) := by
  unfold upS
  cases ha : s.ahead
  · have hb : t.ahead = false := by rw [← h.ahead]; exact ha
    rw [if_neg (by simp), if_neg (by simp [hb])]
    exact h
  · have hb : t.ahead = true := by rw [← h.ahead]; exact ha
    obtain ⟨g1, g2, g3⟩ := h.ah ha
    have e := sys.at_ _ _ g2
    by_cases hl : p.code.length ≤ s.pl.at_
    · rw [if_pos ⟨rfl, hl⟩, if_pos ⟨hb, by rw [← e]; exact hl⟩]
      exact ⟨h.fin, h.value, h.steps, by simp [Spc.returns, h.seen], h.script, rfl, h.since, h.choices, fun _ _ => g3, fun k => absurd h0 k, fun k => by simp [Spc.returns] at k⟩
    · rw [if_neg (by simp [hl]), if_neg (by rw [← e]; simp [hl])]
      exact h
theorem mem_tail {c : Int} {l : List Int} (h : c ∈ l.tail) : c ∈ l := List.mem_of_mem_tail h
theorem choices_tail {u : Bool} {l : List Int} (h : C 0 ∧ ∀ c ∈ l, C c) : C 0 ∧ ∀ c ∈ (if u then l.tail else l), C c := by
  refine ⟨h.1, fun c hc => h.2 c ?_⟩
  split at hc
  · exact mem_tail hc
  · exact hc
theorem choice_in (h : C 0 ∧ ∀ c ∈ s.script, C c) : C s.choice := by
  unfold Spc.choice
  cases hs : s.script with
  | nil => exact h.1
  | cons c l => exact h.2 c (by simp [hs])
theorem goes_rel (sys : Sys p C IN IA End) {i : LIns} (h0 : s.fin = 0) (hfin : t.fin = 0) (hv : s.value = t.value) (hst : s.steps = t.steps) (hse : s.seen = t.seen) (hsc : s.script = t.script) (hah : s.ahead = t.ahead) (hsi : s.since = t.since)
    (hc : C 0 ∧ ∀ c ∈ s.script, C c) (hi : p.code[s.pl.at_]? = some i) (hA : IA s.pl t.pl) (hN : s.ahead = false → IN s.pl t.pl ∧ i.op ≠ 9) (hB : s.ahead = true → IN s.back t.back)
    (hR : s.ahead = true → i.op ≠ 9 → i.op ≠ 12 → IA (rightP p i s.pl) (rightP p i t.pl)) :
    (goesP p i s).fin = 0 ∧ (goesP p i t).fin = 0 ∧ (goesP p i s).value = (goesP p i t).value ∧ (goesP p i s).steps = (goesP p i t).steps ∧ (goesP p i s).seen = (goesP p i t).seen ∧ (goesP p i s).script = (goesP p i t).script ∧
      (goesP p i s).ahead = (goesP p i t).ahead ∧ (goesP p i s).since = (goesP p i t).since ∧ (C 0 ∧ ∀ c ∈ (goesP p i s).script, C c) ∧
      ((goesP p i s).ahead = false → IN (goesP p i s).pl (goesP p i t).pl) ∧
      ((goesP p i s).ahead = true → IN (goesP p i s).back (goesP p i t).back ∧ (i.op ≠ 9 → i.op ≠ 12 → IA (goesP p i s).pl (goesP p i t).pl) ∧ (s.ahead = false → IA (goesP p i s).pl (goesP p i t).pl)) := by
  have e1 := sys.sees _ _ i hA hi
  have e2 := sys.uses _ _ i hA hi
  have hch := choices_tail (u := usesC p i s.pl) hc
  have hcc : s.choice = t.choice := by unfold Spc.choice; rw [hsc]
  have hw := sys.wrong _ _ i s.choice hA hi (choice_in hc)
  unfold goesP
  rw [← hcc, ← e1, ← e2]
  rcases hw with ⟨w1, w2⟩ | ⟨x, y, w1, w2, hxy⟩
  · rw [w1, w2]
    refine ⟨h0, hfin, hv, hst, by rw [hse], by rw [hsc], hah, hsi, hch, fun ha => ?_, fun ha => ⟨hB ha, fun n9 n12 => hR ha n9 n12, fun hf => by simp [hf] at ha⟩⟩
    have := hN ha
    exact sys.rightN _ _ i this.1 hi this.2
  · rw [w1, w2]
    refine ⟨by simp [h0], by simp [hfin], by simp [hv], by simp [hst], by simp [hse], by simp [hsc], by simp, by simp [hah, hsi], by simpa using hch, fun ha => by simp at ha, fun _ => ⟨?_, fun _ _ => hxy, fun _ => hxy⟩⟩
    cases ha : s.ahead
    · have hb : t.ahead = false := by rw [← hah]; exact ha
      have := hN ha
      simp only [leave_back, ha, hb]
      exact sys.rightN _ _ i this.1 hi this.2
    · have hb : t.ahead = true := by rw [← hah]; exact ha
      simp only [leave_back, ha, hb]
      exact hB ha
theorem srel_step (h : SRel C IN IA End s t) (sys : Sys p C IN IA End) (h0 : s.fin = 0) {i : LIns} (hi : p.code[s.pl.at_]? = some i) : SRel C IN IA End (stepS p i s) (stepS p i t) := by
  obtain ⟨s0, es⟩ : ∃ s0 : Spc, s0 = { s with steps := s.steps + 1, seen := s.seen ++ [⟨1, s.pl.at_, 0⟩] } := ⟨_, rfl⟩
  obtain ⟨t0, et⟩ : ∃ t0 : Spc, t0 = { t with steps := t.steps + 1, seen := t.seen ++ [⟨1, t.pl.at_, 0⟩] } := ⟨_, rfl⟩
  have hA : IA s.pl t.pl := by
    cases ha : s.ahead
    · exact sys.inc _ _ (h.on ha h0)
    · exact (h.ah ha).2.1
  have e := sys.at_ _ _ hA
  have hfin : t.fin = 0 := by rw [← h.fin]; exact h0
  have hstS : stepS p i s = if (doS p i s0).ahead then (if overS i s || decide ((doS p i s0).since + 1 = 12) then { doS p i s0 with since := (doS p i s0).since + 1 }.returns else { doS p i s0 with since := (doS p i s0).since + 1 }) else doS p i s0 := by
    rw [es]; rfl
  have hstT : stepS p i t = if (doS p i t0).ahead then (if overS i t || decide ((doS p i t0).since + 1 = 12) then { doS p i t0 with since := (doS p i t0).since + 1 }.returns else { doS p i t0 with since := (doS p i t0).since + 1 }) else doS p i t0 := by
    rw [et]; rfl
  have hover : overS i s = overS i t := by unfold overS; rw [h.ahead]
  by_cases h9 : i.op = 9 ∧ s.ahead = false
  · -- it halts
    obtain ⟨h9, ha⟩ := h9
    have hb : t.ahead = false := by rw [← h.ahead]; exact ha
    have hN := h.on ha h0
    have ds : doS p i s0 = { s0 with fin := 1, value := rg s0.pl.regs i.a } := by
      unfold doS
      rw [if_neg (by omega), if_neg (by omega), if_pos h9, if_neg (by rw [es]; simp [ha])]
    have dt : doS p i t0 = { t0 with fin := 1, value := rg t0.pl.regs i.a } := by
      unfold doS
      rw [if_neg (by omega), if_neg (by omega), if_pos h9, if_neg (by rw [et]; simp [hb])]
    have a1 : (doS p i s0).ahead = false := by rw [ds, es]; exact ha
    have a2 : (doS p i t0).ahead = false := by rw [dt, et]; exact hb
    rw [hstS, hstT, if_neg (by rw [a1]; simp), if_neg (by rw [a2]; simp), ds, dt, es, et]
    exact ⟨rfl, sys.halt _ _ i hN hi h9, by simp [h.steps], by simp [h.seen, e], h.script, h.ahead, h.since, h.choices, fun _ k => by simp at k, fun _ => ⟨ha, sys.mem _ _ hN⟩, fun k => by simp [ha] at k⟩
  · have h9' : i.op = 9 → s.ahead = true := fun k => by
      cases ha : s.ahead
      · exact absurd ⟨k, ha⟩ h9
      · rfl
    have hin : isWord i = true → (insideB p i (idxOf s.pl.regs i) = true ∨ s.ahead = true) ∧ (insideB p i (idxOf t.pl.regs i) = true ∨ t.ahead = true) := fun hw => by
      cases ha : s.ahead
      · have := sys.inside _ _ i (h.on ha h0) hi hw
        exact ⟨.inl this.1, .inl this.2⟩
      · exact ⟨.inr rfl, .inr (by rw [← h.ahead]; exact ha)⟩
    have gs : doS p i s0 = goesP p i s0 := doS_goes p i s0 (by rw [es]; exact h9') (by rw [es]; exact fun hw => (hin hw).1)
    have gt : doS p i t0 = goesP p i t0 := doS_goes p i t0 (by rw [et]; exact fun k => by rw [← h.ahead]; exact h9' k) (by rw [et]; exact fun hw => (hin hw).2)
    have G := goes_rel (s := s0) (t := t0) sys (i := i) (by rw [es]; exact h0) (by rw [et]; exact hfin) (by rw [es, et]; exact h.value) (by rw [es, et]; simp [h.steps]) (by rw [es, et]; simp [h.seen, e]) (by rw [es, et]; exact h.script) (by rw [es, et]; exact h.ahead) (by rw [es, et]; exact h.since)
      (by rw [es]; exact h.choices) (by rw [es]; exact hi) (by rw [es, et]; exact hA)
      (by rw [es, et]; exact fun ha => ⟨h.on ha h0, fun k => by rw [h9' k] at ha; cases ha⟩) (by rw [es, et]; exact fun ha => (h.ah ha).2.2) (by rw [es, et]; exact fun _ n9 n12 => sys.right _ _ i hA hi n9 n12)
    have ovs : s0.ahead = s.ahead := by rw [es]
    rw [hstS, hstT, gs, gt, ← hover]
    obtain ⟨k1, k2, k3, k4, k5, k6, k7, k8, k9, k10, k11⟩ := G
    generalize goesP p i s0 = s1 at *
    generalize goesP p i t0 = t1 at *
    rw [← k7, ← k8]
    cases ha : s1.ahead
    · rw [if_neg (by simp), if_neg (by simp)]
      exact ⟨by rw [k1, k2], k3, k4, k5, k6, by rw [← k7], k8, k9, fun _ _ => k10 ha, fun k => absurd k1 k, fun k => by rw [ha] at k; cases k⟩
    · rw [if_pos rfl, if_pos rfl]
      obtain ⟨b1, b2, b3⟩ := k11 ha
      cases ho : overS i s || decide (s1.since + 1 = 12)
      · rw [if_neg (by simp), if_neg (by simp)]
        refine ⟨by simp [k1, k2], k3, k4, k5, k6, by simp [← k7], by simp, k9, fun k => by simp [ha] at k, fun k => absurd k1 k, fun _ => ⟨k1, ?_, b1⟩⟩
        cases hs : s.ahead
        · exact b3 (by rw [ovs, hs])
        · refine b2 (fun n9 => ?_) (fun n12 => ?_)
          · simp [overS, n9, hs] at ho
          · simp [overS, n12] at ho
      · rw [if_pos rfl, if_pos rfl]
        exact ⟨by simp [Spc.returns, k1, k2], k3, k4, by simp [Spc.returns, k5], k6, rfl, by simp [Spc.returns], k9, fun _ _ => b1, fun k => absurd k1 k, fun k => by simp [Spc.returns] at k⟩
theorem runS_quiet (sys : Sys p C IN IA End) : ∀ (k : Nat) (s t : Spc), SRel C IN IA End s t → SRel C IN IA End (runS p k s) (runS p k t)
  | 0, s, t, h => by simpa [runS] using h
  | k + 1, s, t, h => by
    rw [runS, runS]
    by_cases h0 : s.fin = 0
    · have h0' : t.fin = 0 := by rw [← h.fin]; exact h0
      rw [if_neg (by simp [h0]), if_neg (by simp [h0'])]
      have hu := srel_up h sys h0
      have hz : (upS p s).fin = 0 := by rw [(upS_steps p s).2.1]; exact h0
      have hns := @upS_none p s
      generalize upS p s = s1 at *
      generalize upS p t = t1 at *
      have hA : s1.pl.at_ = t1.pl.at_ := by
        cases ha : s1.ahead
        · exact sys.at_ _ _ (sys.inc _ _ (hu.on ha hz))
        · exact sys.at_ _ _ (hu.ah ha).2.1
      rw [← hA]
      cases hc : p.code[s1.pl.at_]? with
      | none =>
        have ha := hns hc
        exact ⟨rfl, hu.value, hu.steps, hu.seen, hu.script, hu.ahead, hu.since, hu.choices, fun _ k => by simp at k, fun _ => ⟨ha, sys.mem _ _ (hu.on ha hz)⟩, fun k => by simp [ha] at k⟩
      | some i => exact runS_quiet sys k _ _ (srel_step hu sys hz hc)
    · have h0' : ¬ t.fin = 0 := by rw [← h.fin]; exact h0
      rw [if_pos (by simp [h0]), if_pos (by simp [h0'])]
      exact h
theorem quiet_end (sys : Sys p C IN IA End) (h : SRel C IN IA End s t) : s.seen = t.seen ∧ s.fin = t.fin ∧ s.value = t.value ∧ s.steps = t.steps ∧ End (endS s).pl.words (endS t).pl.words := by
  refine ⟨h.seen, h.fin, h.value, h.steps, ?_⟩
  unfold endS
  rw [← h.ahead]
  cases ha : s.ahead
  · by_cases h0 : s.fin = 0
    · exact sys.mem _ _ (h.on ha h0)
    · exact (h.end_ h0).2
  · exact sys.mem _ _ (h.ah ha).2.2
end
def splitW (p : LProg) (ws : List Int) : List (List Int) := (List.range p.regs.length).map fun k => (ws.drop (baseOf p k)).take (wordsOf (p.regs.getD k default))
theorem split_len (p : LProg) (ws : List Int) : (splitW p ws).length = p.regs.length := by simp [splitW]
theorem split_get {p : LProg} (ws : List Int) {k : Nat} (hk : k < p.regs.length) : (splitW p ws).getD k default = (ws.drop (baseOf p k)).take (wordsOf (p.regs.getD k default)) := by
  simp [splitW, hk]
theorem base_zero (p : LProg) : baseOf p 0 = 0 := by simp [baseOf]
theorem base_succ (p : LProg) {k : Nat} (hk : k < p.regs.length) : baseOf p (k + 1) = baseOf p k + wordsOf (p.regs.getD k default) := by
  unfold baseOf
  rw [List.map_take, List.map_take, sum_take_succ _ k (by simpa using hk)]
  simp [hk]
theorem base_all (p : LProg) {k : Nat} (hk : p.regs.length ≤ k) : baseOf p k = total p := by
  unfold baseOf total
  rw [List.take_of_length_le hk]
theorem split_row {p : LProg} {ws : List Int} (hl : ws.length = total p) {k : Nat} (hk : k < p.regs.length) : ((splitW p ws).getD k default).length = wordsOf (p.regs.getD k default) := by
  rw [split_get ws hk, List.length_take, List.length_drop]
  have := base_end p k hk
  omega
theorem split_at {p : LProg} (ws : List Int) {c x : Nat} (hc : c < p.regs.length) (hx : x < wordsOf (p.regs.getD c default)) : ((splitW p ws).getD c default).getD x 0 = ws.getD (baseOf p c + x) 0 := by
  rw [split_get ws hc]
  generalize wordsOf (p.regs.getD c default) = W at *
  rw [List.getD_eq_getElem?_getD, List.getD_eq_getElem?_getD, List.getElem?_take, if_pos hx, List.getElem?_drop]
theorem fits_len {p : LProg} {m : List (List Int)} (h : fitsOk p m = true) : m.length = p.regs.length ∧ ∀ k, k < p.regs.length → (m.getD k default).length = wordsOf (p.regs.getD k default) := by
  simp only [fitsOk, Bool.and_eq_true, decide_eq_true_eq, List.all_eq_true, List.mem_range] at h
  exact ⟨h.1.2, h.2⟩
theorem flat_take {p : LProg} {m : List (List Int)} (h : fitsOk p m = true) : ∀ k, k ≤ p.regs.length → (m.take k).flatten.length = baseOf p k := by
  obtain ⟨h1, h2⟩ := fits_len h
  intro k
  induction k with
  | zero => intro _; simp [base_zero]
  | succ k ih =>
    intro hk
    rw [List.take_succ_eq_append_getElem (by omega), List.flatten_append, List.length_append, ih (by omega), base_succ p (by omega), ← h2 k (by omega)]
    simp [show k < m.length by omega]
theorem flat_total {p : LProg} {m : List (List Int)} (h : fitsOk p m = true) : m.flatten.length = total p := by
  have := flat_take h p.regs.length (Nat.le_refl _)
  rw [base_all p (Nat.le_refl _), List.take_of_length_le (by have := (fits_len h).1; omega)] at this
  exact this
theorem split_flat {p : LProg} {m : List (List Int)} (h : fitsOk p m = true) : splitW p m.flatten = m := by
  obtain ⟨h1, h2⟩ := fits_len h
  apply List.ext_getElem?
  intro k
  by_cases hk : k < p.regs.length
  · have hm : k < m.length := by omega
    have e : m = m.take k ++ m[k] :: m.drop (k + 1) := by simp
    have hb := flat_take h k (by omega)
    have hw := h2 k hk
    have eg : m.getD k default = m[k] := by simp [hm]
    rw [eg] at hw
    have e2 : (splitW p m.flatten)[k]? = some ((m.flatten.drop (baseOf p k)).take (wordsOf (p.regs.getD k default))) := by simp [splitW, hk]
    rw [e2, List.getElem?_eq_getElem hm]
    congr 1
    have e3 : m.flatten = (m.take k).flatten ++ (m[k] ++ (m.drop (k + 1)).flatten) := by
      conv => lhs; rw [e]
      rw [List.flatten_append, List.flatten_cons]
    rw [e3, ← hb, List.drop_left, ← hw, List.take_left]
  · rw [List.getElem?_eq_none (by rw [split_len]; omega), List.getElem?_eq_none (by omega)]
theorem words_all (p : LProg) (ws : List Int) (P : Int → Prop) (h : ∀ x ∈ ws, P x) : ∀ l ∈ splitW p ws, ∀ x ∈ l, P x := by
  intro l hl x hx
  simp only [splitW, List.mem_map, List.mem_range] at hl
  obtain ⟨k, _, rfl⟩ := hl
  exact h x (List.mem_of_mem_drop (List.mem_of_mem_take hx))
end Go.Proofs.Ytiiollmbogojoaa
