/- Plain laws of runs with steps ahead of time: what is done ahead of time is taken back; without choices nothing is done ahead. No program in sight. -/
import Derived.Test.YteiknefajlocoaaSemL
namespace Go.Proofs.Yteiknefajlocoaa
open Go.RowKit
set_option linter.unusedSimpArgs false
set_option linter.unusedVariables false

/-- ahead of time: the place to come back to, and how it ends, stay -/
structure Keeps (s s' : Spc) : Prop where
  ahead : s'.ahead = true
  back : s'.back = s.back
  fin : s'.fin = s.fin
  value : s'.value = s.value
theorem doS_ahead (p : LProg) (i : LIns) (s : Spc) (h : s.ahead = true) : Keeps s (doS p i s) := by
  have hb : Keeps s (branchS i s) := by
    simp only [branchS]
    split <;> constructor <;> simp [Spc.goTo, Spc.chosen, h]
  have ht : ∀ (n : Nat) (s : Spc), s.ahead = true → Keeps s (takeS i n s) := by
    intro n s h
    simp only [takeS]
    split <;> constructor <;> simp [Spc.goTo, Spc.chosen, Spc.put_, h]
  have hw : Keeps s (wordS p i s) := by
    simp only [wordS]
    rw [if_neg (by simp [h])]
    split
    · split
      · constructor <;> simp [h]
      · have := ht (wrap64 (baseOf p i.c.toNat + idxOf s.pl.regs i)).toNat { s with seen := s.seen ++ [⟨2, wrap64 (baseOf p i.c.toNat + idxOf s.pl.regs i), putN i⟩] } h
        exact ⟨this.1, this.2, this.3, this.4⟩
    · split <;> constructor <;> simp [Spc.goTo, Spc.put_, h]
  simp only [doS]
  split
  · constructor <;> simp [Spc.goTo, h]
  split
  · exact hb
  split
  · constructor <;> simp [Spc.goTo, h]
  split
  · constructor <;> simp [Spc.goTo, h]
  split
  · exact hw
  · constructor <;> simp [h]

/-- what a step that is not ahead of time does -/
structure Does (s : Spc) (m : Mach) : Prop where
  fin : s.fin = m.fin
  value : s.value = m.value
  seen : s.seen = m.seen
  on : s.ahead = false → s.fin = 0 → At s.pl m
  back : s.ahead = true → s.fin = 0 ∧ At s.back m
  words : s.fin ≠ 0 → s.pl.words = m.words
theorem takeS_plain (i : LIns) (s : Spc) (m : Mach) (n : Nat) (hA : s.ahead = false) (hf : s.fin = 0) (hAt : At s.pl m) (hm : m.fin = 0) (hv : s.value = m.value) (seen : List LSee) (k : Nat) (h : s.seen = seen) :
    Does (takeS i n s) { m with at_ := m.at_ + 1, steps := k, seen := seen, regs := rset m.regs i.a (m.words.getD n 0) } := by
  obtain ⟨h1, h2, h3⟩ := hAt
  simp only [takeS]
  split
  · constructor <;> simp [Spc.goTo, Spc.chosen, Spc.put_, hA, hf, hv, h, hm, At, h1, h2, h3]
  · constructor <;> simp [Spc.goTo, Spc.chosen, Spc.put_, hA, hf, hv, h, hm, At, h1, h2, h3]
theorem doS_plain (p : LProg) (i : LIns) (s : Spc) (m : Mach) (hp : hardOk p = true) (hi : i ∈ p.code) (hA : s.ahead = false) (hf : s.fin = 0) (hAt : At s.pl m) (hm : m.fin = 0) (hv : s.value = m.value)
    (hs : s.seen = m.seen ++ [⟨1, m.at_, 0⟩]) (hl : m.words.length = total p) : Does (doS p i s) (stepM p i m) := by
  obtain ⟨p1, p2, p3, p4⟩ := hard_parts hp
  have hAt' := hAt
  obtain ⟨h1, h2, h3⟩ := hAt'
  simp only [doS, stepM]
  split
  · constructor <;> simp [Spc.goTo, hA, hf, hv, hs, hm, At, h1, h2]
  split
  · simp only [branchS]
    split
    · constructor <;> simp [Spc.goTo, Spc.chosen, hA, hf, hv, hs, hm, At, h1, h2, h3]
    · constructor <;> simp [Spc.goTo, Spc.chosen, hA, hf, hv, hs, hm, At, h1, h2, h3]
  split
  · rw [if_neg (by simp [hA])]
    constructor <;> simp [hA, hs, h1, h2]
  split
  · rename_i h7 h8 h9 h12
    have hw : (isPut i || isTake i) = false := by simp [isPut, isTake, h12]
    rw [hw]
    constructor <;> simp [Spc.goTo, plainS, plainR, h12, hA, hf, hv, hs, hm, At, h1, h2, h3]
  split
  · rename_i hw
    obtain ⟨hc0, hc⟩ := region_there (p4 i hi) hw
    simp only [wordS, hA, Bool.not_false, Bool.and_true, Bool.not_eq_true']
    rw [h1]
    split
    · rename_i hin
      rw [if_neg (by simp [hin])]
      constructor <;> simp [hA, hv, hs, h2]
    · rename_i hin
      have hin' : insideB p i (idxOf m.regs i) = true := by simpa using hin
      obtain ⟨i1, i2, i3, i4⟩ := idx_small p1 hc hin'
      rw [if_pos hin', i4, if_pos (by rw [h2, hl]; omega)]
      simp only [Int.toNat_natCast]
      split
      · constructor <;> simp [hA, hf, hv, hs, hm, At, h1, h2, h3]
      · refine takeS_plain i { s with seen := _, ahead := false } m _ rfl hf ⟨h1, h2, h3⟩ hm hv _ _ ?_
        simp [hs]
  · constructor <;> simp [hA, hf, hv, hs, hm, At, h1, h2, h3]

/-- a run with steps ahead of time, and one without, where it would come back to -/
structure Mates (p : LProg) (s : Spc) (m : Mach) : Prop where
  fs : s.fin = 0
  fm : m.fin = 0
  value : s.value = m.value
  on : s.ahead = false → At s.pl m
  back : s.ahead = true → At s.back m
  len : m.words.length = total p
theorem stepM_len (p : LProg) (i : LIns) (m : Mach) : (stepM p i m).words.length = m.words.length := by
  simp only [stepM]
  repeat' split
  all_goals simp
theorem mates_up {p : LProg} {s : Spc} {m : Mach} (h : Mates p s m) : Mates p (upS p s) m := by
  unfold upS
  split
  · rename_i hu
    exact ⟨h.fs, h.fm, h.value, fun _ => h.back hu.1, fun e => by simp [Spc.returns] at e, h.len⟩
  · exact h
theorem shut_step {p : LProg} {s : Spc} {m : Mach} {o : Bool} (h : s.fin = 0) (hm : Mates p s m) :
    Mates p (if s.ahead then (if o || decide (s.since + 1 = 12) then { s with since := s.since + 1 }.returns else { s with since := s.since + 1 }) else s) m := by
  split
  · rename_i ha
    split
    · exact ⟨h, hm.fm, hm.value, fun _ => hm.back ha, fun e => by simp [Spc.returns] at e, hm.len⟩
    · exact ⟨h, hm.fm, hm.value, fun e => by simp [ha] at e, fun _ => hm.back ha, hm.len⟩
  · exact hm
/-- a step ahead of time -/
theorem step_ahead {p : LProg} {i : LIns} {s : Spc} {m : Mach} (h : Mates p s m) (ha : s.ahead = true) : Mates p (stepS p i s) m := by
  have hk := doS_ahead p i { s with steps := s.steps + 1, seen := s.seen ++ [⟨1, s.pl.at_, 0⟩] } ha
  refine shut_step (by rw [hk.fin]; exact h.fs) ⟨by rw [hk.fin]; exact h.fs, h.fm, by rw [hk.value]; exact h.value, fun e => by simp [hk.ahead] at e, fun _ => by rw [hk.back]; exact h.back ha, h.len⟩
/-- a step that is not ahead of time -/
theorem step_on {p : LProg} (hp : hardOk p = true) {i : LIns} {s : Spc} {m : Mach} (h : Mates p s m) (ha : s.ahead = false) (hi : i ∈ p.code) :
    ((stepM p i m).fin = 0 → Mates p (stepS p i s) (stepM p i m)) ∧
      ((stepM p i m).fin ≠ 0 → (stepS p i s).fin = (stepM p i m).fin ∧ (stepS p i s).value = (stepM p i m).value ∧ (stepS p i s).ahead = false ∧ (stepS p i s).pl.words = (stepM p i m).words) := by
  have hl := stepM_len p i m
  -- what it shows has no bearing on the rest
  obtain ⟨m1, e1, e2⟩ : ∃ m1 : Mach, m1.seen = s.seen ∧ m1 = { m with seen := s.seen } := ⟨{ m with seen := s.seen }, rfl, rfl⟩
  have hat := h.on ha
  have hd0 : Does (doS p i { s with steps := s.steps + 1, seen := s.seen ++ [⟨1, s.pl.at_, 0⟩] }) (stepM p i m1) := by
    subst e2
    exact doS_plain p i _ _ hp hi ha h.fs hat h.fm h.value (by simp [hat.2.2]) h.len
  have em : (stepM p i m1).regs = (stepM p i m).regs ∧ (stepM p i m1).words = (stepM p i m).words ∧ (stepM p i m1).at_ = (stepM p i m).at_ ∧ (stepM p i m1).fin = (stepM p i m).fin ∧ (stepM p i m1).value = (stepM p i m).value := by
    subst e2
    simp only [stepM]
    repeat' split
    all_goals simp
  obtain ⟨f1, f2, f3, f4, f5⟩ := em
  obtain ⟨g1, g2, g3, g4, g5, g6⟩ := hd0
  unfold At at g4 g5
  rw [f1, f2, f3] at g4 g5
  rw [f4] at g1
  rw [f5] at g2
  rw [f2] at g6
  refine ⟨fun h0 => ?_, fun h0 => ?_⟩
  · have hz : (doS p i { s with steps := s.steps + 1, seen := s.seen ++ [⟨1, s.pl.at_, 0⟩] }).fin = 0 := by rw [g1, h0]
    exact shut_step hz ⟨hz, h0, g2, fun e => g4 e hz, fun e => (g5 e).2, by rw [hl, h.len]⟩
  · have hna : (doS p i { s with steps := s.steps + 1, seen := s.seen ++ [⟨1, s.pl.at_, 0⟩] }).ahead = false := by
      cases hc : (doS p i { s with steps := s.steps + 1, seen := s.seen ++ [⟨1, s.pl.at_, 0⟩] }).ahead
      · rfl
      · exact absurd ((g1.symm.trans (g5 hc).1)) h0
    simp only [stepS, hna]
    exact ⟨g1, g2, hna, g6 (by rw [g1]; exact h0)⟩

theorem upS_none {p : LProg} {s : Spc} (h : p.code[(upS p s).pl.at_]? = none) : (upS p s).ahead = false := by
  unfold upS at h ⊢
  split
  · rfl
  · rename_i hn
    rw [if_neg hn] at h
    cases ha : s.ahead
    · rfl
    · exact absurd ⟨ha, List.getElem?_eq_none_iff.1 h⟩ hn
/-- WHAT IS DONE AHEAD OF TIME IS TAKEN BACK -/
theorem runS_back {p : LProg} (hp : hardOk p = true) : ∀ (k : Nat) (s : Spc) (m : Mach), Mates p s m → (runS p k s).fin ≠ 0 →
    ∃ j, j ≤ k ∧ (runM p j m).fin = (runS p k s).fin ∧ (runM p j m).value = (runS p k s).value ∧ (runM p j m).words = (endS (runS p k s)).pl.words
  | 0, s, m, h, hf => absurd h.fs hf
  | k + 1, s, m, h, hf => by
    have hu := mates_up h
    rw [runS, if_neg (by simp [h.fs])] at hf ⊢
    have hn := @upS_none p s
    generalize upS p s = s1 at *
    cases hc : p.code[s1.pl.at_]? with
    | none =>
      have ha := hn hc
      have hat := hu.on ha
      refine ⟨1, by omega, ?_⟩
      rw [runM, if_neg (by simp [hu.fm]), ← hat.2.2, hc]
      simp [endS, ha, hu.value, hat.2.1]
    | some i =>
      simp only [hc] at hf
      dsimp only
      have hi : i ∈ p.code := List.mem_of_getElem? hc
      cases ha : s1.ahead
      · have hst := step_on hp hu ha hi
        have hat := (hu.on ha).2.2
        by_cases hz : (stepM p i m).fin = 0
        · obtain ⟨j, j1, j2, j3, j4⟩ := runS_back hp k _ _ (hst.1 hz) hf
          refine ⟨j + 1, by omega, ?_⟩
          rw [runM, if_neg (by simp [hu.fm]), ← hat, hc]
          exact ⟨j2, j3, j4⟩
        · obtain ⟨b1, b2, b3, b4⟩ := hst.2 hz
          have hend : runS p k (stepS p i s1) = stepS p i s1 := by
            cases k with
            | zero => rfl
            | succ k => rw [runS, if_pos (by rw [b1]; exact hz)]
          refine ⟨1, by omega, ?_⟩
          rw [runM, if_neg (by simp [hu.fm]), ← hat, hc, hend]
          simp [runM, b1, b2, b4, endS, b3]
      · obtain ⟨j, j1, j2⟩ := runS_back hp k _ _ (step_ahead hu ha) hf
        exact ⟨j, by omega, j2⟩
theorem runS_back_start {p : LProg} (hp : hardOk p = true) (ws script : List Int) (hl : ws.length = total p) (k : Nat) (h : (runS p k (startS ws script)).fin ≠ 0) :
    (runM p k (start ws)).fin = (runS p k (startS ws script)).fin ∧ (runM p k (start ws)).value = (runS p k (startS ws script)).value ∧ (runM p k (start ws)).words = (endS (runS p k (startS ws script))).pl.words := by
  obtain ⟨j, h1, h2, h3, h4⟩ := runS_back hp k (startS ws script) (start ws) ⟨rfl, rfl, rfl, fun _ => ⟨rfl, rfl, rfl⟩, fun e => by simp [startS] at e, hl⟩ h
  obtain ⟨d, rfl⟩ : ∃ d, k = j + d := ⟨k - j, by omega⟩
  rw [runM_add, runM_end (by rw [h2]; exact h)]
  exact ⟨h2, h3, h4⟩

/-! without choices -/
def zeros (l : List Int) : Prop := ∀ x ∈ l, x = 0
theorem zeros_tail {l : List Int} (h : zeros l) : zeros l.tail := fun x hx => h x (List.mem_of_mem_tail hx)
theorem zeros_head {l : List Int} (h : zeros l) : l.headD 0 = 0 := by
  cases l with
  | nil => rfl
  | cons a l => exact h a (by simp)
theorem doS_zeros (p : LProg) (i : LIns) (s : Spc) (hA : s.ahead = false) (hz : zeros s.script) : (doS p i s).ahead = false ∧ zeros (doS p i s).script := by
  have hc : s.choice = 0 := zeros_head hz
  have ht := zeros_tail hz
  have htk : ∀ (n : Nat) (s : Spc), s.ahead = false → zeros s.script → (takeS i n s).ahead = false ∧ zeros (takeS i n s).script := by
    intro n s h hz
    have hc : s.choice = 0 := zeros_head hz
    simp only [takeS, hc]
    rw [if_neg (by simp)]
    exact ⟨h, zeros_tail hz⟩
  simp only [doS]
  split
  · exact ⟨hA, hz⟩
  split
  · simp only [branchS, hc, if_true]
    exact ⟨hA, ht⟩
  split
  · rw [if_neg (by simp [hA])]; exact ⟨hA, hz⟩
  split
  · exact ⟨hA, hz⟩
  split
  · simp only [wordS]
    split
    · exact ⟨hA, hz⟩
    split
    · split
      · exact ⟨hA, hz⟩
      · exact htk _ _ hA hz
    · split <;> exact ⟨hA, hz⟩
  · exact ⟨hA, hz⟩
structure Same_ (p : LProg) (s : Spc) (m : Mach) : Prop where
  mates : Mates p s m
  ahead : s.ahead = false
  zeros : zeros s.script
  seen : s.seen = m.seen
  steps : s.steps = m.steps
theorem runS_zeros {p : LProg} (hp : hardOk p = true) : ∀ (k : Nat) (s : Spc) (m : Mach), Same_ p s m →
    (runS p k s).fin = (runM p k m).fin ∧ (runS p k s).value = (runM p k m).value ∧ (runS p k s).steps = (runM p k m).steps ∧ (runS p k s).seen = (runM p k m).seen ∧ (endS (runS p k s)).pl.words = (runM p k m).words
  | 0, s, m, h => by
    have := (h.mates.on h.ahead).2.1
    simp [runS, runM, h.mates.fs, h.mates.fm, h.mates.value, h.seen, h.steps, endS, h.ahead, this]
  | k + 1, s, m, h => by
    have hu : upS p s = s := by unfold upS; rw [if_neg (by simp [h.ahead])]
    have hat := h.mates.on h.ahead
    rw [runS, runM, if_neg (by simp [h.mates.fs]), if_neg (by simp [h.mates.fm]), hu, ← hat.2.2]
    cases hc : p.code[s.pl.at_]? with
    | none => simp [h.mates.value, h.seen, h.steps, endS, h.ahead, hat.2.1]
    | some i =>
      have hi : i ∈ p.code := List.mem_of_getElem? hc
      have hst := step_on hp h.mates h.ahead hi
      have hz := doS_zeros p i { s with steps := s.steps + 1, seen := s.seen ++ [⟨1, s.pl.at_, 0⟩] } h.ahead h.zeros
      have hstep : stepS p i s = doS p i { s with steps := s.steps + 1, seen := s.seen ++ [⟨1, s.pl.at_, 0⟩] } := by
        simp only [stepS, hz.1]; simp
      have hd := doS_plain p i { s with steps := s.steps + 1, seen := s.seen ++ [⟨1, s.pl.at_, 0⟩] } m hp hi h.ahead h.mates.fs hat h.mates.fm h.mates.value (by simp [h.seen, hat.2.2]) h.mates.len
      have hk := stepS_steps p i s
      rw [hstep] at hst hk
      dsimp only
      rw [hstep]
      by_cases h0 : (stepM p i m).fin = 0
      · exact runS_zeros hp k _ _ ⟨hst.1 h0, hz.1, hz.2, hd.seen, by rw [hk, stepM_steps, h.steps]⟩
      · have e1 : runM p k (stepM p i m) = stepM p i m := runM_end h0 k
        have h1 : (doS p i { s with steps := s.steps + 1, seen := s.seen ++ [⟨1, s.pl.at_, 0⟩] }).fin ≠ 0 := by rw [hd.fin]; exact h0
        have e2 : runS p k (doS p i { s with steps := s.steps + 1, seen := s.seen ++ [⟨1, s.pl.at_, 0⟩] }) = doS p i { s with steps := s.steps + 1, seen := s.seen ++ [⟨1, s.pl.at_, 0⟩] } := by
          cases k with
          | zero => rfl
          | succ k => rw [runS, if_pos h1]
        rw [e1, e2]
        refine ⟨hd.fin, hd.value, by rw [hk, stepM_steps, h.steps], hd.seen, ?_⟩
        simp only [endS, hz.1]
        exact hd.words h1
theorem runS_zeros_start {p : LProg} (hp : hardOk p = true) (ws script : List Int) (hl : ws.length = total p) (hz : zeros script) (k : Nat) :
    (runS p k (startS ws script)).fin = (runM p k (start ws)).fin ∧ (runS p k (startS ws script)).value = (runM p k (start ws)).value ∧ (runS p k (startS ws script)).steps = (runM p k (start ws)).steps ∧
      (runS p k (startS ws script)).seen = (runM p k (start ws)).seen ∧ (endS (runS p k (startS ws script))).pl.words = (runM p k (start ws)).words :=
  runS_zeros hp k _ _ ⟨⟨rfl, rfl, rfl, fun _ => ⟨rfl, rfl, rfl⟩, fun e => by simp [startS] at e, hl⟩, rfl, hz, rfl, rfl⟩

/-- something is shown at once -/
theorem doS_seen (p : LProg) (i : LIns) (s : Spc) : ∃ t, (doS p i s).seen = s.seen ++ t := by
  have htk : ∀ (n : Nat) (s : Spc), (takeS i n s).seen = s.seen := by
    intro n s
    simp only [takeS]
    split <;> simp [Spc.goTo, Spc.chosen, Spc.put_]
  simp only [doS]
  split
  · exact ⟨[], by simp [Spc.goTo]⟩
  split
  · refine ⟨[], ?_⟩
    simp only [branchS]
    split <;> simp [Spc.goTo, Spc.chosen]
  split
  · refine ⟨[], ?_⟩
    split <;> simp [Spc.goTo]
  split
  · exact ⟨[], by simp [Spc.goTo]⟩
  split
  · simp only [wordS]
    split
    · exact ⟨[], by simp⟩
    split
    · split
      · exact ⟨_, rfl⟩
      · exact ⟨_, htk _ _⟩
    · split
      · exact ⟨_, rfl⟩
      · exact ⟨_, rfl⟩
  · exact ⟨_, rfl⟩
theorem stepS_seen (p : LProg) (i : LIns) (s : Spc) : ∃ t, (stepS p i s).seen = s.seen ++ ⟨1, s.pl.at_, 0⟩ :: t := by
  obtain ⟨t, ht⟩ := doS_seen p i { s with steps := s.steps + 1, seen := s.seen ++ [⟨1, s.pl.at_, 0⟩] }
  simp only [stepS]
  split
  · split
    · exact ⟨t ++ [⟨4, 0, 0⟩], by simp [Spc.returns, ht]⟩
    · exact ⟨t, by simp [ht]⟩
  · exact ⟨t, by simp [ht]⟩
theorem runS_seen (p : LProg) : ∀ (k : Nat) (s : Spc), ∃ t, (runS p k s).seen = s.seen ++ t
  | 0, s => ⟨[], by simp [runS]⟩
  | k + 1, s => by
    rw [runS]
    by_cases h : s.fin ≠ 0
    · exact ⟨[], by rw [if_pos h]; simp⟩
    · rw [if_neg h]
      obtain ⟨v, hv⟩ : ∃ v, (upS p s).seen = s.seen ++ v := by
        unfold upS
        split
        · exact ⟨_, rfl⟩
        · exact ⟨[], by simp⟩
      cases hc : p.code[(upS p s).pl.at_]? with
      | none => exact ⟨v, by simp [hv]⟩
      | some i =>
        obtain ⟨t, ht⟩ := stepS_seen p i (upS p s)
        obtain ⟨u, hu⟩ := runS_seen p k (stepS p i (upS p s))
        exact ⟨v ++ ⟨1, (upS p s).pl.at_, 0⟩ :: t ++ u, by dsimp only; rw [hu, ht, hv]; simp⟩
theorem runS_shows (p : LProg) (s : Spc) (hm : s.pl.at_ < p.code.length) (h0 : s.fin = 0) (hA : s.ahead = false) (k : Nat) (hk : 0 < k) : (runS p k s).seen ≠ [] := by
  obtain ⟨k, rfl⟩ : ∃ j, k = j + 1 := ⟨k - 1, by omega⟩
  have hu : upS p s = s := by unfold upS; rw [if_neg (by simp [hA])]
  rw [runS, if_neg (by simp [h0]), hu, List.getElem?_eq_getElem hm]
  obtain ⟨t, ht⟩ := stepS_seen p p.code[s.pl.at_] s
  obtain ⟨u, hu⟩ := runS_seen p k (stepS p p.code[s.pl.at_] s)
  simp only []
  rw [hu, ht]
  simp
end Go.Proofs.Yteiknefajlocoaa
