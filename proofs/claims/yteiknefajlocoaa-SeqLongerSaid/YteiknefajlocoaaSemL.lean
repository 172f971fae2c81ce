/- Plain laws of runs: more fuel goes on; without choices nothing is done ahead of time; what is done ahead of time is taken back. No program in sight. -/
import Derived.Test.YteiknefajlocoaaSem
namespace Go.Proofs.Yteiknefajlocoaa
open Go.RowKit

/-! without steps ahead of time -/
theorem runM_end {p : LProg} {m : Mach} (h : m.fin ≠ 0) (k : Nat) : runM p k m = m := by
  cases k with
  | zero => rfl
  | succ k => rw [runM, if_pos h]
theorem runM_add (p : LProg) (j : Nat) : ∀ (k : Nat) (m : Mach), runM p (k + j) m = runM p j (runM p k m)
  | 0, m => by simp [runM]
  | k + 1, m => by
    rw [Nat.succ_add, runM, runM]
    by_cases h : m.fin ≠ 0
    · rw [if_pos h, if_pos h, runM_end h]
    · rw [if_neg h, if_neg h]
      cases hc : p.code[m.at_]? with
      | none => exact (runM_end (m := { m with fin := 2 }) (by simp) j).symm
      | some i => exact runM_add p j k (stepM p i m)
theorem stepM_steps (p : LProg) (i : LIns) (m : Mach) : (stepM p i m).steps = m.steps + 1 := by
  simp only [stepM]
  repeat' split
  all_goals rfl
theorem stepM_seen (p : LProg) (i : LIns) (m : Mach) : ∃ t, (stepM p i m).seen = m.seen ++ ⟨1, m.at_, 0⟩ :: t := by
  simp only [stepM]
  repeat' split
  all_goals simp
theorem runM_seen (p : LProg) : ∀ (k : Nat) (m : Mach), ∃ t, (runM p k m).seen = m.seen ++ t
  | 0, m => ⟨[], by simp [runM]⟩
  | k + 1, m => by
    rw [runM]
    by_cases h : m.fin ≠ 0
    · exact ⟨[], by rw [if_pos h]; simp⟩
    · rw [if_neg h]
      cases hc : p.code[m.at_]? with
      | none => exact ⟨[], by simp⟩
      | some i =>
        obtain ⟨t, ht⟩ := stepM_seen p i m
        obtain ⟨u, hu⟩ := runM_seen p k (stepM p i m)
        exact ⟨⟨1, m.at_, 0⟩ :: t ++ u, by rw [hu, ht]; simp⟩
theorem runM_steps (p : LProg) : ∀ (k : Nat) (m : Mach), m.steps ≤ (runM p k m).steps ∧ (runM p k m).steps ≤ m.steps + k ∧ ((runM p k m).fin = 0 → (runM p k m).steps = m.steps + k)
  | 0, m => by simp [runM]
  | k + 1, m => by
    rw [runM]
    by_cases h : m.fin ≠ 0
    · rw [if_pos h]
      exact ⟨by omega, by omega, fun h0 => absurd h0 h⟩
    · rw [if_neg h]
      cases hc : p.code[m.at_]? with
      | none => exact ⟨by simp, by simp, fun h0 => by simp at h0⟩
      | some i =>
        have := runM_steps p k (stepM p i m)
        rw [stepM_steps] at this
        dsimp only
        refine ⟨by omega, by omega, fun h0 => ?_⟩
        have := this.2.2 h0
        omega
/-- who has more goes on as the other one began -/
theorem runM_longer (p : LProg) (m : Mach) (h0 : m.steps = 0) (few more : Nat) (h : few ≤ more) :
    ((runM p few m).fin = 0 → (runM p few m).steps = few ∧ few ≤ (runM p more m).steps ∧ ∃ t, (runM p more m).seen = (runM p few m).seen ++ t) ∧
      ((runM p few m).fin ≠ 0 → runM p more m = runM p few m) := by
  obtain ⟨j, rfl⟩ : ∃ j, more = few + j := ⟨more - few, by omega⟩
  rw [runM_add]
  refine ⟨fun hf => ?_, fun hf => runM_end hf j⟩
  have h1 := (runM_steps p few m).2.2 hf
  have h2 := (runM_steps p j (runM p few m)).1
  exact ⟨by omega, by omega, runM_seen p j _⟩
/-- something is shown at once -/
theorem runM_shows (p : LProg) (m : Mach) (hm : m.at_ < p.code.length) (h0 : m.fin = 0) (k : Nat) (hk : 0 < k) : (runM p k m).seen ≠ [] := by
  obtain ⟨k, rfl⟩ : ∃ j, k = j + 1 := ⟨k - 1, by omega⟩
  rw [runM, if_neg (by simp [h0]), List.getElem?_eq_getElem hm]
  obtain ⟨t, ht⟩ := stepM_seen p p.code[m.at_] m
  obtain ⟨u, hu⟩ := runM_seen p k (stepM p p.code[m.at_] m)
  simp only []
  rw [hu, ht]
  simp

/-! regions -/
theorem sum_take_le (l : List Nat) : ∀ k : Nat, (l.take k).sum ≤ l.sum := by
  induction l with
  | nil => intro k; simp
  | cons a l ih =>
    intro k
    cases k with
    | zero => simp
    | succ k => have := ih k; simp; omega
theorem sum_take_succ (l : List Nat) : ∀ k : Nat, k < l.length → (l.take (k + 1)).sum = (l.take k).sum + l.getD k 0 := by
  induction l with
  | nil => intro k hk; simp at hk
  | cons a l ih =>
    intro k hk
    cases k with
    | zero => simp
    | succ k =>
      have := ih k (by simpa using hk)
      simp only [List.take_succ_cons, List.sum_cons, List.getD_cons_succ]
      omega
theorem base_end (p : LProg) (r : Nat) (hr : r < p.regs.length) : baseOf p r + wordsOf (p.regs.getD r default) ≤ total p := by
  have h1 := sum_take_succ (p.regs.map wordsOf) r (by simpa using hr)
  have h2 := sum_take_le (p.regs.map wordsOf) (r + 1)
  unfold baseOf total
  rw [← List.map_take] at h1
  have : (List.map wordsOf p.regs).getD r 0 = wordsOf (p.regs.getD r default) := by simp [hr]
  rw [this, List.map_take] at h1
  rw [List.map_take]
  omega
theorem sum_le (l : List Nat) (n : Nat) (h : ∀ x ∈ l, x ≤ n) : l.sum ≤ l.length * n := by
  induction l with
  | nil => simp
  | cons a l ih =>
    have h1 := h a (by simp)
    have h2 := ih fun x hx => h x (by simp [hx])
    simp only [List.sum_cons, List.length_cons, Nat.succ_mul]
    omega
theorem words_le (r : LReg) (h : r.log ≤ 6) : wordsOf r ≤ 64 := by
  unfold wordsOf
  exact Nat.le_trans (Nat.pow_le_pow_right (by omega) (show r.log.toNat ≤ 6 by omega)) (by decide)
theorem words_pos (r : LReg) : 0 < wordsOf r := Nat.two_pow_pos _
theorem regsOk_log {l : List LReg} (h : regsOk l = true) : ∀ r ∈ l, 0 ≤ r.log ∧ r.log ≤ 6 := by
  intro r hr
  simp only [regsOk, Bool.and_eq_true, List.all_eq_true] at h
  have := h.1 r hr
  simpa [regOk] using this
theorem regsOk_len {l : List LReg} (h : regsOk l = true) : l.length ≤ 6 := by
  simp only [regsOk, Bool.and_eq_true, decide_eq_true_eq] at h
  exact h.2
theorem total_le {p : LProg} (h : regsOk p.regs = true) : total p ≤ 384 := by
  have h1 := sum_le (p.regs.map wordsOf) 64 fun x hx => by
    simp only [List.mem_map] at hx
    obtain ⟨r, hr, rfl⟩ := hx
    exact words_le r (regsOk_log h r hr).2
  have h2 := regsOk_len h
  unfold total
  simp only [List.length_map] at h1
  omega
theorem base_le (p : LProg) (r : Nat) : baseOf p r ≤ total p := by
  have := sum_take_le (p.regs.map wordsOf) r
  rw [← List.map_take] at this
  exact this

/-! hard programs -/
theorem hard_parts {p : LProg} (h : hardOk p = true) : regsOk p.regs = true ∧ 1 ≤ p.code.length ∧ p.code.length ≤ 8000 ∧ ∀ i ∈ p.code, insOk p 10 i = true := by
  simp only [hardOk, progOk, Bool.and_eq_true, decide_eq_true_eq, List.all_eq_true] at h
  exact ⟨h.1.1.1, h.1.1.2, by have := h.1.2; omega, h.2⟩
theorem may_parts {p : LProg} (h : mayOk p = true) : regsOk p.regs = true ∧ 1 ≤ p.code.length ∧ p.code.length ≤ 200 ∧ ∀ i ∈ p.code, insOk p 8 i = true := by
  simp only [mayOk, progOk, Bool.and_eq_true, decide_eq_true_eq, List.all_eq_true] at h
  exact ⟨h.1.1.1, h.1.1.2, by have := h.1.2; omega, h.2⟩
theorem okIn_mono {a b n : Int} (h : a ≤ b) (k : okIn a n = true) : okIn b n = true := by
  simp only [okIn, Bool.and_eq_true, decide_eq_true_eq] at *
  omega
theorem insOk_mono {p : LProg} {R S : Int} (h : R ≤ S) {i : LIns} (k : insOk p R i = true) : insOk p S i = true := by
  have f := fun n => @okIn_mono R S n h
  simp only [insOk] at *
  repeat' (split at k)
  all_goals simp_all
theorem may_hard {p : LProg} (h : mayOk p = true) : hardOk p = true := by
  obtain ⟨h1, h2, h3, h4⟩ := may_parts h
  simp only [hardOk, progOk, Bool.and_eq_true, decide_eq_true_eq, List.all_eq_true]
  exact ⟨⟨⟨h1, h2⟩, by omega⟩, fun i hi => insOk_mono (by omega) (h4 i hi)⟩
/-- of a word's region there is one -/
theorem region_there {p : LProg} {R : Int} {i : LIns} (k : insOk p R i = true) (hw : (isPut i || isTake i) = true) : 0 ≤ i.c ∧ i.c.toNat < p.regs.length := by
  simp only [isPut, isTake, Bool.or_eq_true, decide_eq_true_eq] at hw
  have hop : i.op = 3 ∨ i.op = 4 ∨ i.op = 5 ∨ i.op = 6 := by omega
  simp only [insOk] at k
  rcases hop with h | h | h | h <;> simp [h, okIn] at k <;> omega
theorem idx_small {p : LProg} {i : LIns} {x : Int} (hp : regsOk p.regs = true) (hc : i.c.toNat < p.regs.length) (hx : insideB p i x = true) :
    0 ≤ x ∧ baseOf p i.c.toNat + x.toNat < total p ∧ total p ≤ 384 ∧ wrap64 (baseOf p i.c.toNat + x) = (baseOf p i.c.toNat + x.toNat : Nat) := by
  simp only [insideB, Bool.and_eq_true, decide_eq_true_eq] at hx
  unfold regOf at hx
  have h1 := base_end p i.c.toNat hc
  have h2 := total_le hp
  have h3 := hx.1
  have h4 := hx.2
  refine ⟨hx.1, by omega, h2, ?_⟩
  unfold wrap64
  omega

/-! with steps ahead of time -/
/-- a place reads as a machine's -/
def At (a : Plc) (m : Mach) : Prop := a.regs = m.regs ∧ a.words = m.words ∧ a.at_ = m.at_
theorem returns_seen (s : Spc) : s.returns.seen = s.seen ++ [⟨4, 0, 0⟩] := rfl
section
variable (s : Spc)
@[simp] theorem leave_steps : s.leave.steps = s.steps := by unfold Spc.leave; split <;> rfl
@[simp] theorem leave_fin : s.leave.fin = s.fin := by unfold Spc.leave; split <;> rfl
@[simp] theorem leave_value : s.leave.value = s.value := by unfold Spc.leave; split <;> rfl
@[simp] theorem leave_seen : s.leave.seen = s.seen := by unfold Spc.leave; split <;> rfl
@[simp] theorem leave_script : s.leave.script = s.script := by unfold Spc.leave; split <;> rfl
@[simp] theorem leave_pl : s.leave.pl = s.pl := by unfold Spc.leave; split <;> rfl
@[simp] theorem leave_ahead : s.leave.ahead = true := by unfold Spc.leave; split <;> simp_all
@[simp] theorem leave_back : s.leave.back = if s.ahead then s.back else s.pl := by unfold Spc.leave; split <;> rfl
@[simp] theorem leave_since : s.leave.since = if s.ahead then s.since else -1 := by unfold Spc.leave; split <;> rfl
end
theorem branchS_steps (i : LIns) (s : Spc) : (branchS i s).steps = s.steps := by
  simp only [branchS]
  split <;> simp [Spc.goTo, Spc.chosen]
theorem takeS_steps (i : LIns) (n : Nat) (s : Spc) : (takeS i n s).steps = s.steps := by
  simp only [takeS]
  split <;> simp [Spc.goTo, Spc.chosen, Spc.put_]
theorem wordS_steps (p : LProg) (i : LIns) (s : Spc) : (wordS p i s).steps = s.steps := by
  simp only [wordS]
  repeat' split
  all_goals simp [takeS_steps, Spc.goTo, Spc.put_]
theorem doS_steps (p : LProg) (i : LIns) (s : Spc) : (doS p i s).steps = s.steps := by
  simp only [doS]
  repeat' split
  all_goals simp [wordS_steps, branchS_steps, Spc.goTo]
theorem stepS_steps (p : LProg) (i : LIns) (s : Spc) : (stepS p i s).steps = s.steps + 1 := by
  simp only [stepS, Spc.returns]
  repeat' split
  all_goals simp [doS_steps]
theorem upS_steps (p : LProg) (s : Spc) : (upS p s).steps = s.steps ∧ (upS p s).fin = s.fin ∧ (upS p s).value = s.value ∧ (upS p s).script = s.script := by
  unfold upS
  split <;> simp [Spc.returns]
theorem runS_steps (p : LProg) : ∀ (k : Nat) (s : Spc), (runS p k s).steps ≤ s.steps + k ∧ ((runS p k s).fin = 0 → (runS p k s).steps = s.steps + k)
  | 0, s => by simp [runS]
  | k + 1, s => by
    rw [runS]
    by_cases h : s.fin ≠ 0
    · rw [if_pos h]
      exact ⟨by omega, fun h0 => absurd h0 h⟩
    · rw [if_neg h]
      have hu := (upS_steps p s).1
      cases hc : p.code[(upS p s).pl.at_]? with
      | none => exact ⟨by simp [hu], fun h0 => by simp at h0⟩
      | some i =>
        have := runS_steps p k (stepS p i (upS p s))
        rw [stepS_steps, hu] at this
        dsimp only
        refine ⟨by omega, fun h0 => ?_⟩
        have := this.2 h0
        omega
end Go.Proofs.Yteiknefajlocoaa
