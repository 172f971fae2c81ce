/- Laid together from: Quiet, Rk. -/
import Derived.Test.YteiknefajlocoaaCheckTellsB3

/- Two runs with steps ahead of time show the same, where all places that they come to are alike in what is public. No program in sight. -/
namespace Go.Proofs.Yteiknefajlocoaa
open Go.RowKit
set_option linter.unusedSimpArgs false
set_option linter.unusedVariables false

/-! an instruction, by what it does to a place -/
def isWord (i : LIns) : Bool := isPut i || isTake i
def wordN (p : LProg) (i : LIns) (a : Plc) : Int := wrap64 (baseOf p i.c.toNat + idxOf a.regs i)
def thereB (p : LProg) (i : LIns) (a : Plc) : Bool := decide (0 ≤ wordN p i a) && decide (wordN p i a < a.words.length)
def seesP (p : LProg) (i : LIns) (a : Plc) : List LSee :=
  if i.op = 7 ∨ i.op = 8 ∨ i.op = 9 ∨ i.op = 12 then [] else if isWord i then [⟨2, wordN p i a, putN i⟩] else plainS a.regs i
def usesC (p : LProg) (i : LIns) (a : Plc) : Bool := decide (i.op = 8) || (isTake i && thereB p i a)
def rightP (p : LProg) (i : LIns) (a : Plc) : Plc :=
  if i.op = 7 then { a with at_ := i.n.toNat }
  else if i.op = 8 then { a with at_ := if nholds i.c (rg a.regs i.a) (rg a.regs i.b) then i.n.toNat else a.at_ + 1 }
  else if i.op = 9 ∨ i.op = 12 then { a with at_ := a.at_ + 1 }
  else if isPut i then
    (if thereB p i a then { a with at_ := a.at_ + 1, past := a.past.set (wordN p i a).toNat (a.past.getD (wordN p i a).toNat [] ++ [a.words.getD (wordN p i a).toNat 0]), words := a.words.set (wordN p i a).toNat (rg a.regs i.a) }
    else { a with at_ := a.at_ + 1 })
  else if isTake i then { a with at_ := a.at_ + 1, regs := rset a.regs i.a (if thereB p i a then a.words.getD (wordN p i a).toNat 0 else 0) }
  else { a with at_ := a.at_ + 1, regs := plainR a.regs i }
def wrongP (p : LProg) (i : LIns) (a : Plc) (c : Int) : Option Plc :=
  if i.op = 8 then (if c = 0 then none else some { a with at_ := if nholds i.c (rg a.regs i.a) (rg a.regs i.b) then a.at_ + 1 else i.n.toNat })
  else if isTake i && thereB p i a then
    (if 0 < c ∧ c ≤ (a.past.getD (wordN p i a).toNat []).length then
      some { a with at_ := a.at_ + 1, regs := rset (rset a.regs i.a (a.words.getD (wordN p i a).toNat 0)) i.a ((a.past.getD (wordN p i a).toNat []).getD ((a.past.getD (wordN p i a).toNat []).length - c.toNat) 0) }
    else none)
  else none
def goesP (p : LProg) (i : LIns) (s : Spc) : Spc :=
  let s' := { s with seen := s.seen ++ seesP p i s.pl, pl := rightP p i s.pl, script := if usesC p i s.pl then s.script.tail else s.script }
  match wrongP p i s.pl s.choice with
  | none => s'
  | some w => { s'.leave with pl := w }
theorem word_ops {i : LIns} (h : isWord i = true) : i.op = 3 ∨ i.op = 4 ∨ i.op = 5 ∨ i.op = 6 := by
  simp only [isWord, isPut, isTake, Bool.or_eq_true, decide_eq_true_eq] at h
  omega
theorem take_goes (p : LProg) (i : LIns) (s : Spc) (hw : isTake i = true) (hp : isPut i = false) (hn : thereB p i s.pl = true) (h8 : ¬ i.op = 8) (k : Nat) (hk : (wordN p i s.pl).toNat = k) (sn : List LSee) :
    takeS i k { s with seen := sn } = (match wrongP p i s.pl s.choice with
      | none => { s with seen := sn, pl := rightP p i s.pl, script := s.script.tail }
      | some w => { ({ s with seen := sn, pl := rightP p i s.pl, script := s.script.tail } : Spc).leave with pl := w }) := by
  have h7 : ¬ i.op = 7 := by intro h; simp [isTake, h] at hw
  have h9 : ¬ (i.op = 9 ∨ i.op = 12) := by rintro (h | h) <;> simp [isTake, h] at hw
  subst hk
  have hr : rightP p i s.pl = { s.pl with at_ := s.pl.at_ + 1, regs := rset s.pl.regs i.a (s.pl.words.getD (wordN p i s.pl).toNat 0) } := by
    unfold rightP
    rw [if_neg h7, if_neg h8, if_neg h9, hp, if_neg (by simp), hw, if_pos rfl, hn, if_pos rfl]
  have hwr : wrongP p i s.pl s.choice = if 0 < s.choice ∧ s.choice ≤ (s.pl.past.getD (wordN p i s.pl).toNat []).length then
      some { s.pl with at_ := s.pl.at_ + 1, regs := rset (rset s.pl.regs i.a (s.pl.words.getD (wordN p i s.pl).toNat 0)) i.a ((s.pl.past.getD (wordN p i s.pl).toNat []).getD ((s.pl.past.getD (wordN p i s.pl).toNat []).length - s.choice.toNat) 0) } else none := by
    unfold wrongP
    rw [if_neg h8, hw, hn]
    rfl
  rw [hwr, hr]
  unfold takeS
  by_cases hc : 0 < s.choice ∧ s.choice ≤ (s.pl.past.getD (wordN p i s.pl).toNat []).length
  · rw [if_pos hc]
    refine Eq.trans (if_pos hc) ?_
    simp only [Spc.goTo, Spc.chosen, Spc.put_, Spc.leave]
    cases s.ahead <;> rfl
  · rw [if_neg hc]
    exact if_neg hc
theorem doS_goes (p : LProg) (i : LIns) (s : Spc) (h9 : i.op = 9 → s.ahead = true) (hin : isWord i = true → insideB p i (idxOf s.pl.regs i) = true ∨ s.ahead = true) : doS p i s = goesP p i s := by
  unfold doS goesP
  split
  · rename_i h
    simp [wrongP, seesP, usesC, rightP, h, Spc.goTo, isTake]
  split
  · rename_i h7 h
    have hr : rightP p i s.pl = { s.pl with at_ := if nholds i.c (rg s.pl.regs i.a) (rg s.pl.regs i.b) then i.n.toNat else s.pl.at_ + 1 } := by
      unfold rightP
      rw [if_neg h7, if_pos h]
    have hs : seesP p i s.pl = [] := by simp [seesP, h]
    have hu : usesC p i s.pl = true := by simp [usesC, h]
    rw [hr, hs, hu, if_pos rfl, List.append_nil]
    unfold branchS wrongP
    rw [if_pos h]
    by_cases hc : s.choice = 0
    · rw [if_pos hc, if_pos hc]
      rfl
    · rw [if_neg hc, if_neg hc]
      simp only [Spc.goTo, Spc.chosen, leave_pl]
  split
  · rename_i h7 h8 h
    rw [if_pos (h9 h)]
    simp [wrongP, seesP, usesC, rightP, h, Spc.goTo, isTake]
  split
  · rename_i h
    simp [wrongP, seesP, usesC, rightP, h, Spc.goTo, isTake]
  split
  · rename_i h7 h8 h9' h12 hw
    have hw' : isWord i = true := hw
    have hno : (!insideB p i (idxOf s.pl.regs i) && !s.ahead) = false := by
      rcases hin hw' with h | h <;> simp [h]
    have hs : seesP p i s.pl = [⟨2, wordN p i s.pl, putN i⟩] := by
      simp [seesP, h7, h8, h9', h12, hw']
    have e912 : ¬ (i.op = 9 ∨ i.op = 12) := by omega
    unfold wordS
    refine Eq.trans (if_neg (by rw [hno]; simp)) ?_
    rw [hs]
    by_cases hn : thereB p i s.pl = true
    · have hn' := hn
      simp only [thereB, Bool.and_eq_true, decide_eq_true_eq] at hn'
      refine Eq.trans (if_pos hn') ?_
      cases hp : isPut i
      · have ht : isTake i = true := by simpa [hp] using hw
        rw [if_neg (by simp)]
        have := take_goes p i s ht hp hn h8 (wrap64 (baseOf p i.c.toNat + idxOf s.pl.regs i)).toNat rfl (s.seen ++ [⟨2, wordN p i s.pl, putN i⟩])
        rw [show usesC p i s.pl = true by simp [usesC, ht, hn], if_pos rfl]
        exact this
      · have ht : isTake i = false := by
          rcases word_ops hw' with h | h | h | h <;> simp [isPut, isTake, h] at hp ⊢
        have hwr : wrongP p i s.pl s.choice = none := by
          unfold wrongP; rw [if_neg h8, ht]; rfl
        have hu : usesC p i s.pl = false := by simp [usesC, ht, h8]
        rw [hwr, hu, if_pos rfl, if_neg (by simp)]
        unfold rightP
        rw [if_neg h7, if_neg h8, if_neg e912, hp, if_pos rfl, hn, if_pos rfl]
        rfl
    · have hn1 : thereB p i s.pl = false := by simpa using hn
      have hn2 : ¬ (0 ≤ wrap64 (baseOf p i.c.toNat + idxOf s.pl.regs i) ∧ wrap64 (baseOf p i.c.toNat + idxOf s.pl.regs i) < s.pl.words.length) := by
        intro h
        apply hn
        simp only [thereB, Bool.and_eq_true, decide_eq_true_eq]
        exact h
      refine Eq.trans (if_neg hn2) ?_
      have hwr : wrongP p i s.pl s.choice = none := by
        unfold wrongP; rw [if_neg h8, hn1, Bool.and_false]; rfl
      have hu : usesC p i s.pl = false := by simp [usesC, hn1, h8]
      rw [hwr, hu]
      unfold rightP
      rw [if_neg h7, if_neg h8, if_neg e912, hn1]
      cases hp : isPut i
      · have ht : isTake i = true := by simpa [hp] using hw
        rw [ht]
        rfl
      · rfl
  · rename_i h7 h8 h9' h12 hw
    have hpt : isPut i = false ∧ isTake i = false := by simpa using hw
    have hw' : isWord i = false := by simp [isWord, hpt]
    simp [wrongP, seesP, usesC, rightP, h7, h8, h9', h12, hpt, hw']

/-- WHAT IS ASKED of two kinds of places that two runs come to: where they are not ahead of time (IN), and where they are (IA). -/
structure Sys (p : LProg) (C : Int → Prop) (IN IA : Plc → Plc → Prop) (End : List Int → List Int → Prop) : Prop where
  at_ : ∀ a b, IA a b → a.at_ = b.at_
  inc : ∀ a b, IN a b → IA a b
  mem : ∀ a b, IN a b → End a.words b.words
  uses : ∀ a b i, IA a b → p.code[a.at_]? = some i → usesC p i a = usesC p i b
  sees : ∀ a b i, IA a b → p.code[a.at_]? = some i → seesP p i a = seesP p i b
  wrong : ∀ a b i c, IA a b → p.code[a.at_]? = some i → C c → (wrongP p i a c = none ∧ wrongP p i b c = none) ∨ ∃ x y, wrongP p i a c = some x ∧ wrongP p i b c = some y ∧ IA x y
  right : ∀ a b i, IA a b → p.code[a.at_]? = some i → i.op ≠ 9 → i.op ≠ 12 → IA (rightP p i a) (rightP p i b)
  rightN : ∀ a b i, IN a b → p.code[a.at_]? = some i → i.op ≠ 9 → IN (rightP p i a) (rightP p i b)
  inside : ∀ a b i, IN a b → p.code[a.at_]? = some i → isWord i = true → insideB p i (idxOf a.regs i) = true ∧ insideB p i (idxOf b.regs i) = true
  halt : ∀ a b i, IN a b → p.code[a.at_]? = some i → i.op = 9 → rg a.regs i.a = rg b.regs i.a
structure SRel (C : Int → Prop) (IN IA : Plc → Plc → Prop) (End : List Int → List Int → Prop) (s t : Spc) : Prop where
  fin : s.fin = t.fin
  value : s.value = t.value
  steps : s.steps = t.steps
  seen : s.seen = t.seen
  script : s.script = t.script
  ahead : s.ahead = t.ahead
  since : s.since = t.since
  choices : C 0 ∧ ∀ c ∈ s.script, C c
  on : s.ahead = false → s.fin = 0 → IN s.pl t.pl
  end_ : s.fin ≠ 0 → s.ahead = false ∧ End s.pl.words t.pl.words
  ah : s.ahead = true → s.fin = 0 ∧ IA s.pl t.pl ∧ IN s.back t.back
section
variable {p : LProg} {C : Int → Prop} {IN IA : Plc → Plc → Prop} {End : List Int → List Int → Prop} {s t : Spc}
theorem srel_up (h : SRel C IN IA End s t) (sys : Sys p C IN IA End) (h0 : s.fin = 0) : SRel C IN IA End (upS p s) (upS p t) := by
  unfold upS
  cases ha : s.ahead
  · have hb : t.ahead = false := by rw [← h.ahead]; exact ha
    rw [if_neg (by simp), if_neg (by simp [hb])]
    exact h
  · have hb : t.ahead = true := by rw [← h.ahead]; exact ha
    obtain ⟨g1, g2, g3⟩ := h.ah ha
    have e := sys.at_ _ _ g2
    by_cases hl : p.code.length ≤ s.pl.at_
    · rw [if_pos ⟨rfl, hl⟩, if_pos ⟨hb, by rw [← e]; exact hl⟩]
      exact ⟨h.fin, h.value, h.steps, by simp [Spc.returns, h.seen], h.script, rfl, h.since, h.choices, fun _ _ => g3, fun k => absurd h0 k, fun k => by simp [Spc.returns] at k⟩
    · rw [if_neg (by simp [hl]), if_neg (by rw [← e]; simp [hl])]
      exact h
theorem mem_tail {c : Int} {l : List Int} (h : c ∈ l.tail) : c ∈ l := List.mem_of_mem_tail h
theorem choices_tail {u : Bool} {l : List Int} (h : C 0 ∧ ∀ c ∈ l, C c) : C 0 ∧ ∀ c ∈ (if u then l.tail else l), C c := by
  refine ⟨h.1, fun c hc => h.2 c ?_⟩
  split at hc
  · exact mem_tail hc
  · exact hc
theorem choice_in (h : C 0 ∧ ∀ c ∈ s.script, C c) : C s.choice := by
  unfold Spc.choice
  cases hs : s.script with
  | nil => exact h.1
  | cons c l => exact h.2 c (by simp [hs])
/-- what stays the same while something goes on -/
theorem goes_rel (sys : Sys p C IN IA End) {i : LIns} (h0 : s.fin = 0) (hfin : t.fin = 0) (hv : s.value = t.value) (hst : s.steps = t.steps) (hse : s.seen = t.seen) (hsc : s.script = t.script) (hah : s.ahead = t.ahead) (hsi : s.since = t.since)
    (hc : C 0 ∧ ∀ c ∈ s.script, C c) (hi : p.code[s.pl.at_]? = some i) (hA : IA s.pl t.pl) (hN : s.ahead = false → IN s.pl t.pl ∧ i.op ≠ 9) (hB : s.ahead = true → IN s.back t.back)
    (hR : s.ahead = true → i.op ≠ 9 → i.op ≠ 12 → IA (rightP p i s.pl) (rightP p i t.pl)) :
    (goesP p i s).fin = 0 ∧ (goesP p i t).fin = 0 ∧ (goesP p i s).value = (goesP p i t).value ∧ (goesP p i s).steps = (goesP p i t).steps ∧ (goesP p i s).seen = (goesP p i t).seen ∧ (goesP p i s).script = (goesP p i t).script ∧
      (goesP p i s).ahead = (goesP p i t).ahead ∧ (goesP p i s).since = (goesP p i t).since ∧ (C 0 ∧ ∀ c ∈ (goesP p i s).script, C c) ∧
      ((goesP p i s).ahead = false → IN (goesP p i s).pl (goesP p i t).pl) ∧
      ((goesP p i s).ahead = true → IN (goesP p i s).back (goesP p i t).back ∧ (i.op ≠ 9 → i.op ≠ 12 → IA (goesP p i s).pl (goesP p i t).pl) ∧ (s.ahead = false → IA (goesP p i s).pl (goesP p i t).pl)) := by
  have e1 := sys.sees _ _ i hA hi
  have e2 := sys.uses _ _ i hA hi
  have hch := choices_tail (u := usesC p i s.pl) hc
  have hcc : s.choice = t.choice := by unfold Spc.choice; rw [hsc]
  have hw := sys.wrong _ _ i s.choice hA hi (choice_in hc)
  unfold goesP
  rw [← hcc, ← e1, ← e2]
  rcases hw with ⟨w1, w2⟩ | ⟨x, y, w1, w2, hxy⟩
  · rw [w1, w2]
    refine ⟨h0, hfin, hv, hst, by rw [hse], by rw [hsc], hah, hsi, hch, fun ha => ?_, fun ha => ⟨hB ha, fun n9 n12 => hR ha n9 n12, fun hf => by simp [hf] at ha⟩⟩
    have := hN ha
    exact sys.rightN _ _ i this.1 hi this.2
  · rw [w1, w2]
    refine ⟨by simp [h0], by simp [hfin], by simp [hv], by simp [hst], by simp [hse], by simp [hsc], by simp, by simp [hah, hsi], by simpa using hch, fun ha => by simp at ha, fun _ => ⟨?_, fun _ _ => hxy, fun _ => hxy⟩⟩
    cases ha : s.ahead
    · have hb : t.ahead = false := by rw [← hah]; exact ha
      have := hN ha
      simp only [leave_back, ha, hb]
      exact sys.rightN _ _ i this.1 hi this.2
    · have hb : t.ahead = true := by rw [← hah]; exact ha
      simp only [leave_back, ha, hb]
      exact hB ha
theorem srel_step (h : SRel C IN IA End s t) (sys : Sys p C IN IA End) (h0 : s.fin = 0) {i : LIns} (hi : p.code[s.pl.at_]? = some i) : SRel C IN IA End (stepS p i s) (stepS p i t) := by
  obtain ⟨s0, es⟩ : ∃ s0 : Spc, s0 = { s with steps := s.steps + 1, seen := s.seen ++ [⟨1, s.pl.at_, 0⟩] } := ⟨_, rfl⟩
  obtain ⟨t0, et⟩ : ∃ t0 : Spc, t0 = { t with steps := t.steps + 1, seen := t.seen ++ [⟨1, t.pl.at_, 0⟩] } := ⟨_, rfl⟩
  have hA : IA s.pl t.pl := by
    cases ha : s.ahead
    · exact sys.inc _ _ (h.on ha h0)
    · exact (h.ah ha).2.1
  have e := sys.at_ _ _ hA
  have hfin : t.fin = 0 := by rw [← h.fin]; exact h0
  have hstS : stepS p i s = if (doS p i s0).ahead then (if overS i s || decide ((doS p i s0).since + 1 = 12) then { doS p i s0 with since := (doS p i s0).since + 1 }.returns else { doS p i s0 with since := (doS p i s0).since + 1 }) else doS p i s0 := by
    rw [es]; rfl
  have hstT : stepS p i t = if (doS p i t0).ahead then (if overS i t || decide ((doS p i t0).since + 1 = 12) then { doS p i t0 with since := (doS p i t0).since + 1 }.returns else { doS p i t0 with since := (doS p i t0).since + 1 }) else doS p i t0 := by
    rw [et]; rfl
  have hover : overS i s = overS i t := by unfold overS; rw [h.ahead]
  by_cases h9 : i.op = 9 ∧ s.ahead = false
  · -- it halts
    obtain ⟨h9, ha⟩ := h9
    have hb : t.ahead = false := by rw [← h.ahead]; exact ha
    have hN := h.on ha h0
    have ds : doS p i s0 = { s0 with fin := 1, value := rg s0.pl.regs i.a } := by
      unfold doS
      rw [if_neg (by omega), if_neg (by omega), if_pos h9, if_neg (by rw [es]; simp [ha])]
    have dt : doS p i t0 = { t0 with fin := 1, value := rg t0.pl.regs i.a } := by
      unfold doS
      rw [if_neg (by omega), if_neg (by omega), if_pos h9, if_neg (by rw [et]; simp [hb])]
    have a1 : (doS p i s0).ahead = false := by rw [ds, es]; exact ha
    have a2 : (doS p i t0).ahead = false := by rw [dt, et]; exact hb
    rw [hstS, hstT, if_neg (by rw [a1]; simp), if_neg (by rw [a2]; simp), ds, dt, es, et]
    exact ⟨rfl, sys.halt _ _ i hN hi h9, by simp [h.steps], by simp [h.seen, e], h.script, h.ahead, h.since, h.choices, fun _ k => by simp at k, fun _ => ⟨ha, sys.mem _ _ hN⟩, fun k => by simp [ha] at k⟩
  · have h9' : i.op = 9 → s.ahead = true := fun k => by
      cases ha : s.ahead
      · exact absurd ⟨k, ha⟩ h9
      · rfl
    have hin : isWord i = true → (insideB p i (idxOf s.pl.regs i) = true ∨ s.ahead = true) ∧ (insideB p i (idxOf t.pl.regs i) = true ∨ t.ahead = true) := fun hw => by
      cases ha : s.ahead
      · have := sys.inside _ _ i (h.on ha h0) hi hw
        exact ⟨.inl this.1, .inl this.2⟩
      · exact ⟨.inr rfl, .inr (by rw [← h.ahead]; exact ha)⟩
    have gs : doS p i s0 = goesP p i s0 := doS_goes p i s0 (by rw [es]; exact h9') (by rw [es]; exact fun hw => (hin hw).1)
    have gt : doS p i t0 = goesP p i t0 := doS_goes p i t0 (by rw [et]; exact fun k => by rw [← h.ahead]; exact h9' k) (by rw [et]; exact fun hw => (hin hw).2)
    have G := goes_rel (s := s0) (t := t0) sys (i := i) (by rw [es]; exact h0) (by rw [et]; exact hfin) (by rw [es, et]; exact h.value) (by rw [es, et]; simp [h.steps]) (by rw [es, et]; simp [h.seen, e]) (by rw [es, et]; exact h.script) (by rw [es, et]; exact h.ahead) (by rw [es, et]; exact h.since)
      (by rw [es]; exact h.choices) (by rw [es]; exact hi) (by rw [es, et]; exact hA)
      (by rw [es, et]; exact fun ha => ⟨h.on ha h0, fun k => by rw [h9' k] at ha; cases ha⟩) (by rw [es, et]; exact fun ha => (h.ah ha).2.2) (by rw [es, et]; exact fun _ n9 n12 => sys.right _ _ i hA hi n9 n12)
    have ovs : s0.ahead = s.ahead := by rw [es]
    rw [hstS, hstT, gs, gt, ← hover]
    obtain ⟨k1, k2, k3, k4, k5, k6, k7, k8, k9, k10, k11⟩ := G
    generalize goesP p i s0 = s1 at *
    generalize goesP p i t0 = t1 at *
    rw [← k7, ← k8]
    cases ha : s1.ahead
    · rw [if_neg (by simp), if_neg (by simp)]
      exact ⟨by rw [k1, k2], k3, k4, k5, k6, by rw [← k7], k8, k9, fun _ _ => k10 ha, fun k => absurd k1 k, fun k => by rw [ha] at k; cases k⟩
    · rw [if_pos rfl, if_pos rfl]
      obtain ⟨b1, b2, b3⟩ := k11 ha
      cases ho : overS i s || decide (s1.since + 1 = 12)
      · rw [if_neg (by simp), if_neg (by simp)]
        refine ⟨by simp [k1, k2], k3, k4, k5, k6, by simp [← k7], by simp, k9, fun k => by simp [ha] at k, fun k => absurd k1 k, fun _ => ⟨k1, ?_, b1⟩⟩
        cases hs : s.ahead
        · exact b3 (by rw [ovs, hs])
        · refine b2 (fun n9 => ?_) (fun n12 => ?_)
          · simp [overS, n9, hs] at ho
          · simp [overS, n12] at ho
      · rw [if_pos rfl, if_pos rfl]
        exact ⟨by simp [Spc.returns, k1, k2], k3, k4, by simp [Spc.returns, k5], k6, rfl, by simp [Spc.returns], k9, fun _ _ => b1, fun k => absurd k1 k, fun k => by simp [Spc.returns] at k⟩
/-- TWO RUNS SHOW THE SAME. -/
theorem runS_quiet (sys : Sys p C IN IA End) : ∀ (k : Nat) (s t : Spc), SRel C IN IA End s t → SRel C IN IA End (runS p k s) (runS p k t)
  | 0, s, t, h => by simpa [runS] using h
  | k + 1, s, t, h => by
    rw [runS, runS]
    by_cases h0 : s.fin = 0
    · have h0' : t.fin = 0 := by rw [← h.fin]; exact h0
      rw [if_neg (by simp [h0]), if_neg (by simp [h0'])]
      have hu := srel_up h sys h0
      have hz : (upS p s).fin = 0 := by rw [(upS_steps p s).2.1]; exact h0
      have hns := @upS_none p s
      generalize upS p s = s1 at *
      generalize upS p t = t1 at *
      have hA : s1.pl.at_ = t1.pl.at_ := by
        cases ha : s1.ahead
        · exact sys.at_ _ _ (sys.inc _ _ (hu.on ha hz))
        · exact sys.at_ _ _ (hu.ah ha).2.1
      rw [← hA]
      cases hc : p.code[s1.pl.at_]? with
      | none =>
        have ha := hns hc
        exact ⟨rfl, hu.value, hu.steps, hu.seen, hu.script, hu.ahead, hu.since, hu.choices, fun _ k => by simp at k, fun _ => ⟨ha, sys.mem _ _ (hu.on ha hz)⟩, fun k => by simp [ha] at k⟩
      | some i => exact runS_quiet sys k _ _ (srel_step hu sys hz hc)
    · have h0' : ¬ t.fin = 0 := by rw [← h.fin]; exact h0
      rw [if_pos (by simp [h0]), if_pos (by simp [h0'])]
      exact h
theorem doS_halts (p : LProg) (i : LIns) (s : Spc) (h9 : i.op = 9) (ha : s.ahead = false) : (doS p i s).fin = 1 ∧ (doS p i s).ahead = false := by
  unfold doS
  rw [if_neg (by omega), if_neg (by omega), if_pos h9, if_neg (by simp [ha])]
  exact ⟨rfl, ha⟩
theorem goes_fin (p : LProg) (i : LIns) (s : Spc) : (goesP p i s).fin = s.fin := by
  unfold goesP
  cases wrongP p i s.pl s.choice <;> simp
/-- NOTHING GOES WRONG, where all places are inside. -/
theorem runS_safe (sys : Sys p C IN IA End) (hat : ∀ a b, IN a b → a.at_ < p.code.length) : ∀ (k : Nat) (s t : Spc), SRel C IN IA End s t → s.fin ≠ 2 → (runS p k s).fin ≠ 2
  | 0, s, t, h, hf => by simpa [runS] using hf
  | k + 1, s, t, h, hf => by
    rw [runS]
    by_cases h0 : s.fin = 0
    · rw [if_neg (by simp [h0])]
      have hu := srel_up h sys h0
      have hz : (upS p s).fin = 0 := by rw [(upS_steps p s).2.1]; exact h0
      have hns := @upS_none p s
      generalize upS p s = s1 at *
      generalize upS p t = t1 at *
      cases hc : p.code[s1.pl.at_]? with
      | none =>
        have ha := hns hc
        have := hat _ _ (hu.on ha hz)
        exact absurd (List.getElem?_eq_none_iff.1 hc) (by omega)
      | some i =>
        refine runS_safe sys hat k _ _ (srel_step hu sys hz hc) ?_
        have h2 : (doS p i { s1 with steps := s1.steps + 1, seen := s1.seen ++ [⟨1, s1.pl.at_, 0⟩] }).fin ≠ 2 := by
          by_cases h9 : i.op = 9 ∧ s1.ahead = false
          · rw [(doS_halts p i { s1 with steps := s1.steps + 1, seen := s1.seen ++ [⟨1, s1.pl.at_, 0⟩] } h9.1 h9.2).1]; decide
          · rw [doS_goes p i { s1 with steps := s1.steps + 1, seen := s1.seen ++ [⟨1, s1.pl.at_, 0⟩] } (fun e => ?_) (fun hw => ?_), goes_fin]
            · show s1.fin ≠ 2
              rw [hz]; decide
            · show s1.ahead = true
              cases ha : s1.ahead
              · exact absurd ⟨e, ha⟩ h9
              · rfl
            · show insideB p i (idxOf s1.pl.regs i) = true ∨ s1.ahead = true
              cases ha : s1.ahead
              · exact .inl (sys.inside _ _ i (hu.on ha hz) hc hw).1
              · exact .inr rfl
        simp only [stepS]
        split
        · split
          · exact h2
          · exact h2
        · exact h2
    · rw [if_pos (by simp [h0])]
      exact hf
theorem quiet_end (sys : Sys p C IN IA End) (h : SRel C IN IA End s t) : s.seen = t.seen ∧ s.fin = t.fin ∧ s.value = t.value ∧ s.steps = t.steps ∧ End (endS s).pl.words (endS t).pl.words := by
  refine ⟨h.seen, h.fin, h.value, h.steps, ?_⟩
  unfold endS
  rw [← h.ahead]
  cases ha : s.ahead
  · by_cases h0 : s.fin = 0
    · exact sys.mem _ _ (h.on ha h0)
    · exact (h.end_ h0).2
  · exact sys.mem _ _ (h.ah ha).2.2
end
end Go.Proofs.Yteiknefajlocoaa
/- How much is known, as a number: it grows as states are joined. No program in sight. -/
namespace Go.Proofs.Yteiknefajlocoaa
open Go
set_option linter.unusedVariables false
set_option linter.unusedSimpArgs false

def rk (k : LKn) : Nat := k.bits.toNat + (if k.sec = true then 1 else 0)
def rank (s : KSt) : Nat := (s.map rk).sum
def ph (o : Option KSt) : Nat := match o with | none => 145 | some s => 144 - rank s
def phi (T : Tab) : Nat := (T.map ph).sum
def meas (T : Tab) (wk : List Int) : Nat := 3 * phi T + wk.length
theorem rk_le {k : LKn} (h : Kok k) : rk k ≤ 18 := by
  unfold rk
  have h1 := h.1
  have h2 := h.2
  split <;> omega
theorem rk_mono {a b : LKn} (ha : Kok a) (hb : Kok b) (h : Kle a b) : rk a ≤ rk b ∧ (rk a = rk b → a = b) := by
  have a0 := ha.1
  have b0 := hb.1
  obtain ⟨h1, h2⟩ := h
  obtain ⟨ab, sa⟩ := a
  obtain ⟨bb, sb⟩ := b
  simp only at a0 b0 h1 h2
  unfold rk
  cases sa <;> cases sb <;> simp at h2 ⊢ <;> omega
theorem rank_mono : ∀ (s t : KSt), s.length = t.length → (∀ r : Nat, Kok (s.getD r default)) → (∀ r : Nat, Kok (t.getD r default)) → Sle s t → rank s ≤ rank t ∧ (rank s = rank t → s = t)
  | [], [], _, _, _, _ => ⟨Nat.le_refl _, fun _ => rfl⟩
  | [], _ :: _, h, _, _, _ => by simp at h
  | _ :: _, [], h, _, _, _ => by simp at h
  | a :: s, b :: t, h, ha, hb, hl => by
    have i := rank_mono s t (by simpa using h) (fun r => by simpa using ha (r + 1)) (fun r => by simpa using hb (r + 1)) (fun r => by simpa using hl (r + 1))
    have j := rk_mono (a := a) (b := b) (by simpa using ha 0) (by simpa using hb 0) (by simpa using hl 0)
    unfold rank at *
    simp only [List.map_cons, List.sum_cons]
    refine ⟨by omega, fun e => ?_⟩
    rw [j.2 (by omega), i.2 (by omega)]
theorem rank_bd : ∀ (s : KSt), (∀ r : Nat, Kok (s.getD r default)) → rank s ≤ 18 * s.length
  | [], _ => by simp [rank]
  | a :: s, h => by
    have i := rank_bd s (fun r => by simpa using h (r + 1))
    have j := rk_le (k := a) (by simpa using h 0)
    unfold rank at *
    simp only [List.map_cons, List.sum_cons, List.length_cons]
    omega
theorem rank_144 {s : KSt} (h : Sok s) : rank s ≤ 144 := by
  have := rank_bd s h.ok
  rw [h.len] at this
  omega
theorem phi_set : ∀ (T : Tab) (k : Nat) (o : Option KSt), k < T.length → phi (T.set k o) + ph (tg T k) = phi T + ph o
  | [], k, o, h => by simp at h
  | a :: T, 0, o, h => by
    simp only [phi, tg, List.set_cons_zero, List.map_cons, List.sum_cons, List.getD_cons_zero]
    omega
  | a :: T, k + 1, o, h => by
    have := phi_set T k o (by simpa using h)
    simp only [phi, tg, List.set_cons_succ, List.map_cons, List.sum_cons, List.getD_cons_succ] at *
    omega
theorem phi_le : ∀ (T : Tab), phi T ≤ 145 * T.length
  | [] => by simp [phi]
  | a :: T => by
    have i := phi_le T
    have : ph a ≤ 145 := by
      cases a with
      | none => simp [ph]
      | some s => simp only [ph]; omega
    simp only [phi, List.map_cons, List.sum_cons, List.length_cons] at *
    omega
theorem tg_same {T : Tab} {k : Nat} {o : Option KSt} (h : tg T k = o) (hk : k < T.length) : T.set k o = T := by
  subst h
  apply List.ext_getElem (by simp)
  intro j h1 h2
  rw [List.getElem_set]
  split
  · rename_i e; subst e; simp [tg, hk]
  · rfl
end Go.Proofs.Yteiknefajlocoaa
