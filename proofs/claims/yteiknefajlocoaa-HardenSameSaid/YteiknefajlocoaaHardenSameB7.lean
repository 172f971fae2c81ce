/- Laid together from: CheckQ, CheckS, Typed, HardP, Form, Mem, Upd, Ref6P, PubL. -/
import Derived.Test.YteiknefajlocoaaHardenSameB6
import Derived.Test.YteiknefajlocoaaHardenSameB1
import Derived.Test.YteiknefajlocoaaHardenSameB3

/- A check's state holds of one run, and of two that have the same public words: an instruction at a time. No program in sight. -/
namespace Go.Proofs.Yteiknefajlocoaa
open Go.RowKit
set_option linter.unusedSimpArgs false
set_option linter.unusedVariables false

/-- what an instruction of registers alone brings to its first register -/
def plainV (r : List Int) (i : LIns) : Int :=
  if i.op = 1 then i.n else if i.op = 2 then rg r i.b else if i.op = 10 then wrap64 (rg r i.b + i.n)
  else if i.op = 11 then (if rg r i.a < 0 ∨ i.n ≤ rg r i.a then 0 else rg r i.a) else nop (i.op - 20) (rg r i.b) (rg r i.c)
theorem rset_self (r : List Int) (a : Int) : rset r a (rg r a) = r := by
  unfold rset rg
  apply List.ext_getElem?
  intro j
  rw [List.getElem?_set]
  by_cases h : a.toNat = j
  · subst h
    by_cases h2 : a.toNat < r.length
    · simp [h2]
    · simp [h2]
  · rw [if_neg h]
theorem plainR_set (r : List Int) (i : LIns) (h : i.op ≠ 12) : plainR r i = rset r i.a (plainV r i) := by
  unfold plainR plainV
  by_cases e1 : i.op = 1
  · rw [if_pos e1, if_pos e1]
  rw [if_neg e1, if_neg e1]
  by_cases e2 : i.op = 2
  · rw [if_pos e2, if_pos e2]
  rw [if_neg e2, if_neg e2]
  by_cases e10 : i.op = 10
  · rw [if_pos e10, if_pos e10]
  rw [if_neg e10, if_neg e10]
  by_cases e11 : i.op = 11
  · rw [if_pos e11, if_pos e11]
    split
    · rfl
    · exact (rset_self r i.a).symm
  rw [if_neg e11, if_neg e11, if_neg h]

theorem not_word {i : LIns} (h : isWord i = false) : i.op ≠ 3 ∧ i.op ≠ 4 ∧ i.op ≠ 5 ∧ i.op ≠ 6 ∧ isPut i = false ∧ isTake i = false := by
  simp only [isWord, Bool.or_eq_false_iff] at h
  have h2 := h
  simp [isPut, isTake] at h2
  exact ⟨by omega, by omega, by omega, by omega, h.1, h.2⟩
theorem rightP_plain (p : LProg) (a : Plc) {i : LIns} (hw : isWord i = false) (h7 : i.op ≠ 7) (h8 : i.op ≠ 8) (h9 : i.op ≠ 9) : rightP p i a = { a with at_ := a.at_ + 1, regs := plainR a.regs i } := by
  obtain ⟨-, -, -, -, hp, ht⟩ := not_word hw
  unfold rightP
  rw [if_neg h7, if_neg h8, hp, ht]
  by_cases e12 : i.op = 12
  · rw [if_pos (.inr e12)]
    simp [plainR, e12]
  · rw [if_neg (by omega)]
    simp
theorem rightP_take (p : LProg) (a : Plc) {i : LIns} (h : isTake i = true) : rightP p i a = { a with at_ := a.at_ + 1, regs := rset a.regs i.a (if thereB p i a then a.words.getD (wordN p i a).toNat 0 else 0) } := by
  have hop : i.op = 3 ∨ i.op = 5 := by simpa [isTake] using h
  have hp : isPut i = false := by simp [isPut]; omega
  unfold rightP
  rw [if_neg (by omega), if_neg (by omega), if_neg (by omega), hp, h]
  simp
theorem rightP_put (p : LProg) (a : Plc) {i : LIns} (h : isPut i = true) (ht : thereB p i a = true) : rightP p i a = { a with at_ := a.at_ + 1, past := a.past.set (wordN p i a).toNat (a.past.getD (wordN p i a).toNat [] ++ [a.words.getD (wordN p i a).toNat 0]), words := a.words.set (wordN p i a).toNat (rg a.regs i.a) } := by
  have hop : i.op = 4 ∨ i.op = 6 := by simpa [isPut] using h
  unfold rightP
  rw [if_neg (by omega), if_neg (by omega), if_neg (by omega), h, ht]
  simp
theorem rightP_put0 (p : LProg) (a : Plc) {i : LIns} (h : isPut i = true) (ht : thereB p i a = false) : rightP p i a = { a with at_ := a.at_ + 1 } := by
  have hop : i.op = 4 ∨ i.op = 6 := by simpa [isPut] using h
  unfold rightP
  rw [if_neg (by omega), if_neg (by omega), if_neg (by omega), h, ht]
  simp
theorem rightP_at (p : LProg) (a : Plc) {i : LIns} (h7 : i.op ≠ 7) (h8 : i.op ≠ 8) : (rightP p i a).at_ = a.at_ + 1 := by
  unfold rightP
  rw [if_neg h7, if_neg h8]
  repeat' split
  all_goals rfl
theorem rightP_if (p : LProg) (a : Plc) {i : LIns} (h8 : i.op = 8) : rightP p i a = { a with at_ := if nholds i.c (rg a.regs i.a) (rg a.regs i.b) then i.n.toNat else a.at_ + 1 } := by
  unfold rightP
  rw [if_neg (by omega), if_pos h8]
theorem rightP_jump (p : LProg) (a : Plc) {i : LIns} (h7 : i.op = 7) : rightP p i a = { a with at_ := i.n.toNat } := by
  unfold rightP
  rw [if_pos h7]
theorem oneK_take (p : LProg) (s : KSt) {i : LIns} (h : isTake i = true) : oneK p s i = kset s i.a ⟨17, (regOf p i).secret⟩ := by
  have hop : i.op = 3 ∨ i.op = 5 := by simpa [isTake] using h
  unfold oneK
  rw [if_neg (by omega), if_neg (by omega), if_neg (by omega), if_pos hop]
theorem oneK_put (p : LProg) (s : KSt) {i : LIns} (h : isPut i = true) : oneK p s i = s := by
  have hop : i.op = 4 ∨ i.op = 6 := by simpa [isPut] using h
  unfold oneK
  rw [if_neg (by omega), if_neg (by omega), if_neg (by omega), if_neg (by omega), if_neg (by omega), if_pos (by omega)]

theorem past_set_get (l : List (List Int)) (k : Nat) (x : List Int) (n : Nat) : (l.set k x).getD n [] = if n = k ∧ n < l.length then x else l.getD n [] := by
  rw [List.getD_eq_getElem?_getD, List.getElem?_set]
  by_cases e : k = n
  · subst e
    by_cases h2 : k < l.length <;> simp [h2]
  · rw [if_neg e, if_neg (by omega), ← List.getD_eq_getElem?_getD]
theorem snoc_get (l : List Int) (x : Int) (n : Nat) : (l ++ [x]).getD n 0 = if n = l.length then x else l.getD n 0 := by
  simp only [List.getD_eq_getElem?_getD, List.getElem?_append]
  by_cases h : n < l.length
  · rw [if_pos h, if_neg (by omega)]
  · rw [if_neg h]
    by_cases e : n = l.length
    · subst e; simp
    · rw [if_neg e, List.getElem?_eq_none (by simp; omega), List.getElem?_eq_none (by omega)]
theorem All64.snoc {l : List Int} (h : All64 l) {x : Int} (hx : R64 x) : All64 (l ++ [x]) := fun n => by
  rw [snoc_get]
  split
  · exact hx
  · exact h n

/-- one instruction that goes on with the next one -/
theorem good_right {p : LProg} {s : KSt} {a : Plc} {i : LIns} (hok : insOk p 8 i = true) (hn : R64 i.n) (hs : Sok s) (h : Good p s a) (h7 : i.op ≠ 7) (h8 : i.op ≠ 8) (h9 : i.op ≠ 9) : Good p (oneK p s i) (rightP p i a) := by
  cases hw : isWord i
  · rw [rightP_plain p a hw h7 h8 h9]
    exact ⟨by simp [plain_len, h.regs], all64_plain h.r64 hn, sat_plain hok hs h.regs h.r64 h.sat hw h7 h8 h9, h.words, h.w64, h.past, h.p64⟩
  · cases hp : isPut i
    · have ht : isTake i = true := by simpa [isWord, hp] using hw
      rw [rightP_take p a ht, oneK_take p s ht]
      have hv : R64 (if thereB p i a then a.words.getD (wordN p i a).toNat 0 else 0) := by
        split
        · exact h.w64 _
        · exact r64_zero
      exact ⟨by simp [rset_len, h.regs], h.r64.rset _ hv, h.sat.set hs.len h.regs _ (khas_17 rfl), h.words, h.w64, h.past, h.p64⟩
    · rw [oneK_put p s hp]
      cases ht : thereB p i a
      · rw [rightP_put0 p a hp ht]
        exact h.goTo _
      · rw [rightP_put p a hp ht]
        refine ⟨h.regs, h.r64, h.sat, by simp [h.words], h.w64.set _ (h.r64 _), by simp [h.past], fun n => ?_⟩
        simp only
        rw [past_set_get]
        split
        · exact (h.p64 _).snoc (h.w64 _)
        · exact h.p64 n
/-! two runs -/
def EqP (s : KSt) (r t : List Int) : Prop := ∀ j, j < 8 → (s.getD j default).sec = false → r.getD j 0 = t.getD j 0
structure MemR (p : LProg) (a b : Plc) : Prop where
  pub : Pub p a.words b.words
  plen : ∀ n, (a.past.getD n []).length = (b.past.getD n []).length
  ppub : ∀ n, secW p n = false → a.past.getD n [] = b.past.getD n []
structure Pair (p : LProg) (s : KSt) (a b : Plc) : Prop where
  ga : Good p s a
  gb : Good p s b
  eq : EqP s a.regs b.regs
  mem : MemR p a b
theorem EqP.mono {s t : KSt} {r u : List Int} (h : EqP s r u) (k : Sle s t) : EqP t r u := fun j hj e => h j hj (by
  cases hs : (s.getD j default).sec
  · rfl
  · rw [(k j).2 hs] at e; cases e)
theorem EqP.set {s : KSt} {r u : List Int} (h : EqP s r u) (hl : s.length = 8) (hr : r.length = 10) (hu : u.length = 10) (a : Int) {k : LKn} {v w : Int} (hv : k.sec = false → v = w) : EqP (kset s a k) (rset r a v) (rset u a w) := fun j hj => by
  rw [kset_get, hl]
  unfold rset
  rw [set_get, set_get, hr, hu]
  by_cases e : j = a.toNat
  · rw [if_pos ⟨e, hj⟩, if_pos ⟨e, by omega⟩, if_pos ⟨e, by omega⟩]; exact hv
  · rw [if_neg (by omega), if_neg (by omega), if_neg (by omega)]; exact h j hj
theorem EqP.at_ {s : KSt} {r u : List Int} (h : EqP s r u) {a : Int} (ha : okIn 8 a = true) (hs : (kg s a).sec = false) : rg r a = rg u a := by
  rw [okIn_iff] at ha
  exact h a.toNat (by omega) hs
theorem EqP.know {s : KSt} {r u : List Int} (h : EqP s r u) (hl : s.length = 8) (a : Int) {k : LKn} (hk : k.sec = (kg s a).sec) : EqP (kset s a k) r u := fun j hj => by
  rw [kset_get, hl]
  by_cases e : j = a.toNat
  · rw [if_pos ⟨e, hj⟩, e, hk]
    intro hs
    exact h a.toNat (by omega) hs
  · rw [if_neg (by omega)]; exact h j hj
theorem Pair.mono {p : LProg} {s t : KSt} {a b : Plc} (hs : Sok s) (ht : Sok t) (h : Pair p s a b) (k : Sle s t) : Pair p t a b := ⟨h.ga.mono hs ht k, h.gb.mono hs ht k, h.eq.mono k, h.mem⟩
theorem Pair.goTo {p : LProg} {s : KSt} {a b : Plc} (h : Pair p s a b) (k l : Nat) : Pair p s { a with at_ := k } { b with at_ := l } := ⟨h.ga.goTo k, h.gb.goTo l, h.eq, ⟨h.mem.1, h.mem.2, h.mem.3⟩⟩

/-- what both do with a word is the same -/
theorem pair_idx {p : LProg} {s : KSt} {a b : Plc} {i : LIns} (hok : insOk p 8 i = true) (hq : quietK p s i = true) (h : Pair p s a b) (hw : isWord i = true) : idxOf a.regs i = idxOf b.regs i ∧ wordN p i a = wordN p i b ∧ thereB p i a = thereB p i b := by
  obtain ⟨g1, g2, g10, g3, g5, g8, g9, g11, go, g7, gop⟩ := ins_regs hok
  have e1 : idxOf a.regs i = idxOf b.regs i := by
    unfold idxOf
    rcases word_ops hw with e | e | e | e
    · rw [if_neg (by omega), if_neg (by omega), h.eq.at_ (g3 (.inl e)).2 (by simpa [quietK, e] using hq)]
    · have : (kg s i.b).sec = false := by
        simp only [quietK, e] at hq
        simp at hq
        exact hq.1
      rw [if_neg (by omega), if_neg (by omega), h.eq.at_ (g3 (.inr e)).2 this]
    · rw [if_pos (by omega), if_pos (by omega)]
    · rw [if_pos (by omega), if_pos (by omega)]
  have e2 : wordN p i a = wordN p i b := by unfold wordN; rw [e1]
  exact ⟨e1, e2, by unfold thereB; rw [e2, h.ga.words, h.gb.words]⟩
/-- where a word is: its region's secrecy is its own -/
theorem sec_of {p : LProg} {i : LIns} {a : Plc} (hp : regsOk p.regs = true) (hc : i.c.toNat < p.regs.length) (hin : insideB p i (idxOf a.regs i) = true) : secW p (wordN p i a).toNat = (regOf p i).secret ∧ 0 ≤ wordN p i a ∧ (wordN p i a).toNat < total p := by
  obtain ⟨h1, h2, h3, h4⟩ := idx_small hp hc hin
  unfold wordN
  rw [h4, Int.toNat_natCast]
  refine ⟨?_, by omega, h2⟩
  simp only [insideB, Bool.and_eq_true, decide_eq_true_eq] at hin
  unfold regOf at hin ⊢
  exact secAt_base p.regs i.c.toNat (idxOf a.regs i).toNat hc (by omega)
theorem plain_eq {p : LProg} {s : KSt} {r u : List Int} {i : LIns} (hok : insOk p 8 i = true) (hs : Sok s) (hr : r.length = 10) (hu : u.length = 10) (h : EqP s r u) (hw : isWord i = false) (h7 : i.op ≠ 7) (h8 : i.op ≠ 8) (h9 : i.op ≠ 9) : EqP (oneK p s i) (plainR r i) (plainR u i) := by
  obtain ⟨g1, g2, g10, g3, g5, g8, g9, g11, go, g7, gop⟩ := ins_regs hok
  obtain ⟨w3, w4, w5, w6, -, -⟩ := not_word hw
  by_cases e12 : i.op = 12
  · have : oneK p s i = s := by
      unfold oneK
      rw [if_neg (by omega), if_neg (by omega), if_neg (by omega), if_neg (by omega), if_neg (by omega), if_pos (by omega)]
    rw [this]
    unfold plainR
    rw [if_neg (by omega), if_neg (by omega), if_neg (by omega), if_neg (by omega), if_pos e12, if_neg (by omega), if_neg (by omega), if_neg (by omega), if_neg (by omega), if_pos e12]
    exact h
  rw [plainR_set r i e12, plainR_set u i e12]
  unfold oneK plainV
  by_cases e1 : i.op = 1
  · rw [if_pos e1, if_pos e1, if_pos e1]
    exact h.set hs.len hr hu _ fun _ => rfl
  rw [if_neg e1, if_neg e1, if_neg e1]
  by_cases e2 : i.op = 2
  · rw [if_pos e2, if_pos e2, if_pos e2]
    exact h.set hs.len hr hu _ fun e => h.at_ (g2 e2).2 e
  rw [if_neg e2, if_neg e2, if_neg e2]
  by_cases e10 : i.op = 10
  · rw [if_pos e10, if_pos e10, if_pos e10]
    refine h.set hs.len hr hu _ fun e => ?_
    have hb : (kg s i.b).sec = false := by
      unfold ksum at e
      split at e
      · exact e
      · simp only [kopK, Bool.or_eq_false_iff] at e; exact e.1
    rw [h.at_ (g10 e10).2 hb]
  rw [if_neg e10, if_neg e10, if_neg e10, if_neg (by omega)]
  by_cases e11 : i.op = 11
  · rw [if_pos e11, if_pos e11, if_pos e11]
    refine h.set hs.len hr hu _ fun e => ?_
    have ha : rg r i.a = rg u i.a := h.at_ (g11 e11).1 e
    rw [ha]
  rw [if_neg e11, if_neg e11, if_neg e11, if_neg (by omega)]
  have := go e1 e2 e10 w3 w4 w5 w6 h7 h8 h9 e11 e12
  refine h.set hs.len hr hu _ fun e => ?_
  simp only [kopK, Bool.or_eq_false_iff] at e
  rw [h.at_ this.2.1 e.1, h.at_ this.2.2.1 e.2]

/-- ONE INSTRUCTION, of two runs -/
theorem pair_sees {p : LProg} {s : KSt} {a b : Plc} {i : LIns} (hok : insOk p 8 i = true) (hq : quietK p s i = true) (h : Pair p s a b) : usesC p i a = usesC p i b ∧ seesP p i a = seesP p i b := by
  obtain ⟨g1, g2, g10, g3, g5, g8, g9, g11, go, g7, gop⟩ := ins_regs hok
  cases hw : isWord i
  · obtain ⟨w3, w4, w5, w6, hp, ht⟩ := not_word hw
    refine ⟨by simp [usesC, ht], ?_⟩
    unfold seesP
    rw [hw]
    split
    · rfl
    · rename_i hc
      simp only [Bool.false_eq_true, if_false, plainS]
      split
      · rename_i h29
        have := go (by omega) (by omega) (by omega) w3 w4 w5 w6 (by omega) (by omega) (by omega) (by omega) (by omega)
        have hq' : (kg s i.b).sec = false ∧ (kg s i.c).sec = false := by
          unfold quietK at hq
          rw [if_neg w3, if_neg w4, if_neg w6, if_neg (by omega), if_pos h29] at hq
          simpa using hq
        rw [h.eq.at_ this.2.1 hq'.1, h.eq.at_ this.2.2.1 hq'.2]
      · rfl
  · obtain ⟨e1, e2, e3⟩ := pair_idx hok hq h hw
    refine ⟨by unfold usesC; rw [e3], ?_⟩
    unfold seesP
    rw [e2, hw]
    split
    · rfl
    · rfl
theorem pair_right {p : LProg} {s : KSt} {a b : Plc} {i : LIns} (hp : regsOk p.regs = true) (hok : insOk p 8 i = true) (hn : R64 i.n) (hs : Sok s) (hq : quietK p s i = true) (h : Pair p s a b) (hin : isWord i = true → insideB p i (idxOf a.regs i) = true)
    (h7 : i.op ≠ 7) (h8 : i.op ≠ 8) (h9 : i.op ≠ 9) : Pair p (oneK p s i) (rightP p i a) (rightP p i b) := by
  refine ⟨good_right hok hn hs h.ga h7 h8 h9, good_right hok hn hs h.gb h7 h8 h9, ?_, ?_⟩
  · cases hw : isWord i
    · rw [rightP_plain p a hw h7 h8 h9, rightP_plain p b hw h7 h8 h9]
      exact plain_eq hok hs h.ga.regs h.gb.regs h.eq hw h7 h8 h9
    · obtain ⟨e1, e2, e3⟩ := pair_idx hok hq h hw
      have hc := (region_there hok hw).2
      obtain ⟨s1, s2, s3⟩ := sec_of hp hc (hin hw)
      cases hput : isPut i
      · have ht : isTake i = true := by simpa [isWord, hput] using hw
        rw [rightP_take p a ht, rightP_take p b ht, oneK_take p s ht, ← e2, ← e3]
        refine h.eq.set hs.len h.ga.regs h.gb.regs _ fun e => ?_
        split
        · exact h.mem.pub _ (by rw [s1]; exact e)
        · rfl
      · rw [oneK_put p s hput]
        cases ht : thereB p i a
        · rw [rightP_put0 p a hput ht, rightP_put0 p b hput (by rw [← e3]; exact ht)]
          exact h.eq
        · rw [rightP_put p a hput ht, rightP_put p b hput (by rw [← e3]; exact ht)]
          exact h.eq
  · cases hw : isWord i
    · rw [rightP_plain p a hw h7 h8 h9, rightP_plain p b hw h7 h8 h9]
      exact ⟨h.mem.1, h.mem.2, h.mem.3⟩
    · obtain ⟨e1, e2, e3⟩ := pair_idx hok hq h hw
      have hc := (region_there hok hw).2
      obtain ⟨s1, s2, s3⟩ := sec_of hp hc (hin hw)
      cases hput : isPut i
      · have ht : isTake i = true := by simpa [isWord, hput] using hw
        rw [rightP_take p a ht, rightP_take p b ht]
        exact ⟨h.mem.1, h.mem.2, h.mem.3⟩
      · cases ht : thereB p i a
        · rw [rightP_put0 p a hput ht, rightP_put0 p b hput (by rw [← e3]; exact ht)]
          exact ⟨h.mem.1, h.mem.2, h.mem.3⟩
        · rw [rightP_put p a hput ht, rightP_put p b hput (by rw [← e3]; exact ht), ← e2]
          have hA : secW p (wordN p i a).toNat = false → rg a.regs i.a = rg b.regs i.a := fun e => by
            rw [s1] at e
            obtain ⟨g1, g2, g10, g3, g5, g8, g9, g11, go, g7, gop⟩ := ins_regs hok
            have hop : i.op = 4 ∨ i.op = 6 := by simpa [isPut] using hput
            rcases hop with o | o
            · refine h.eq.at_ (g3 (.inr o)).1 ?_
              simp [quietK, o, e] at hq
              exact hq.2
            · refine h.eq.at_ (g5 (.inr o)) ?_
              simpa [quietK, o, e] using hq
          refine ⟨fun n e => ?_, fun n => ?_, fun n e => ?_⟩
          · simp only
            rw [set_get, set_get, h.ga.words, h.gb.words]
            split
            · rename_i hh; exact hA (by rw [← hh.1]; exact e)
            · exact h.mem.pub n e
          · simp only
            rw [past_set_get, past_set_get, h.ga.past, h.gb.past]
            split
            · rw [List.length_append, List.length_append, h.mem.plen]; rfl
            · exact h.mem.plen n
          · simp only
            rw [past_set_get, past_set_get, h.ga.past, h.gb.past]
            split
            · rename_i hh
              rw [← hh.1, h.mem.ppub n e, h.mem.pub n e]
            · exact h.mem.ppub n e
theorem pair_branch {p : LProg} {s : KSt} {a b : Plc} {i : LIns} (hok : insOk p 8 i = true) (hs : Sok s) (hq : quietK p s i = true) (h : Pair p s a b) (h8 : i.op = 8) :
    nholds i.c (rg a.regs i.a) (rg a.regs i.b) = nholds i.c (rg b.regs i.a) (rg b.regs i.b) ∧ Pair p (branchK s i (nholds i.c (rg a.regs i.a) (rg a.regs i.b))) a b := by
  obtain ⟨g1, g2, g10, g3, g5, g8, g9, g11, go, g7, gop⟩ := ins_regs hok
  obtain ⟨ha, hb, -, -⟩ := g8 h8
  have hq' : (kg s i.a).sec = false ∧ (kg s i.b).sec = false := by
    simpa [quietK, h8] using hq
  have e := h.eq.at_ ha hq'.1
  have f := h.eq.at_ hb hq'.2
  have eh : nholds i.c (rg a.regs i.a) (rg a.regs i.b) = nholds i.c (rg b.regs i.a) (rg b.regs i.b) := by rw [e, f]
  refine ⟨eh, ?_, ?_, ?_, h.mem⟩
  · exact ⟨h.ga.regs, h.ga.r64, sat_branch (p := p) ha hb hs h.ga.regs h.ga.r64 h.ga.sat, h.ga.words, h.ga.w64, h.ga.past, h.ga.p64⟩
  · rw [eh]
    exact ⟨h.gb.regs, h.gb.r64, sat_branch (p := p) ha hb hs h.gb.regs h.gb.r64 h.gb.sat, h.gb.words, h.gb.w64, h.gb.past, h.gb.p64⟩
  · simp only [branchK]
    have h1 : EqP (if tells1 i.c (nholds i.c (rg a.regs i.a) (rg a.regs i.b)) then kset s i.a (kless (kg s i.a) (kg s i.b)) else s) a.regs b.regs := by
      split
      · exact h.eq.know hs.len _ rfl
      · exact h.eq
    split
    · refine EqP.know h1 (by split <;> simp [kset, hs.len]) _ ?_
      show (kg s i.b).sec = _
      split
      · unfold kg
        rw [kset_get]
        split
        · rename_i e2
          show _ = (kg s i.a).sec
          unfold kg
          rw [e2.1]
        · rfl
      · rfl
    · exact h1
end Go.Proofs.Yteiknefajlocoaa
/- CheckSafe and CheckQuiet in plain Lean: a program without fault goes wrong nowhere, and tells nothing. No program in sight. -/
namespace Go.Proofs.Yteiknefajlocoaa
open Go.RowKit
set_option linter.unusedSimpArgs false
set_option linter.unusedVariables false

/-- a program without fault, with its table -/
structure Sound (p : LProg) (T : Tab) : Prop where
  may : mayOk p = true
  n64 : ∀ i ∈ p.code, R64 i.n
  post : Post p T
  none_ : (faultOf p T).1 = 0
theorem insAt_of {p : LProg} {k : Nat} {i : LIns} (h : p.code[k]? = some i) : insAt p k = i := by
  unfold insAt
  rw [List.getD_eq_getElem?_getD, h]; rfl
theorem tg_lt {p : LProg} {T : Tab} (h : Tok p T) {k : Nat} {s : KSt} (hk : tg T k = some s) : k < p.code.length := by
  rcases Nat.lt_or_ge k p.code.length with h1 | h1
  · exact h1
  · unfold tg at hk
    rw [List.getD_eq_getElem?_getD, List.getElem?_eq_none (by rw [h.len]; omega)] at hk
    simp at hk
section
variable {p : LProg} {T : Tab} {k : Nat} {s : KSt} {i : LIns}
theorem Sound.ins (h : Sound p T) (hi : p.code[k]? = some i) : insOk p 8 i = true ∧ R64 i.n := by
  have hm := List.mem_of_getElem? hi
  exact ⟨(may_parts h.may).2.2.2 i hm, h.n64 i hm⟩
theorem Sound.faults (h : Sound p T) (hk : tg T k = some s) (hi : p.code[k]? = some i) : boundK p k s i = true ∧ quietK p s i = true := by
  have := fault_none h.post.tok.len h.none_ k s hk
  rw [insAt_of hi] at this
  exact this
theorem Sound.led (h : Sound p T) (hk : tg T k = some s) (hi : p.code[k]? = some i) {x : Nat × KSt} (hx : x ∈ leadsK p k s i) : x.1 < p.code.length → ∃ t, tg T x.1 = some t ∧ Sle x.2 t := by
  have := h.post.leads k s hk
  rw [insAt_of hi] at this
  exact this x hx
/-- a word's index is inside, where nothing has been done ahead of time -/
theorem Sound.inside (h : Sound p T) (hk : tg T k = some s) (hi : p.code[k]? = some i) {r : List Int} (hs : Sat s r) (hw : isWord i = true) : insideB p i (idxOf r i) = true := by
  obtain ⟨hb, hq⟩ := h.faults hk hi
  obtain ⟨hok, hn⟩ := h.ins hi
  obtain ⟨g1, g2, g10, g3, g5, g8, g9, g11, go, g7, gop⟩ := ins_regs hok
  have hregs := (may_parts h.may).1
  have hc := region_there hok hw
  have hlog := regsOk_log hregs (regOf p i) (by unfold regOf; simp [hc.2])
  have hop := word_ops hw
  by_cases e : i.op = 3 ∨ i.op = 4
  · unfold boundK at hb
    rw [if_neg (by omega), if_pos e] at hb
    simp only [Bool.and_eq_true, decide_eq_true_eq] at hb
    exact idx_inside hs (g3 e).2 (h.post.tok.ok k s hk) e hb.1.2 hb.2 hlog.2
  · have e5 : i.op = 5 ∨ i.op = 6 := by omega
    have : idxOf r i = i.n := by unfold idxOf; rw [if_pos e5]
    rw [this]
    simp only [insOk] at hok
    rw [if_neg (by omega), if_neg (by omega), if_neg (by omega), if_neg (by omega), if_pos e5] at hok
    simp only [okIn, Bool.and_eq_true, decide_eq_true_eq] at hok
    simp only [insideB, Bool.and_eq_true, decide_eq_true_eq]
    unfold regOf
    exact hok.2
theorem Sound.next (h : Sound p T) (hk : tg T k = some s) (hi : p.code[k]? = some i) (h7 : i.op ≠ 7) (h9 : i.op ≠ 9) : k + 1 < p.code.length := by
  obtain ⟨hb, hq⟩ := h.faults hk hi
  have hlt := tg_lt h.post.tok hk
  have : lastB p k = false := by
    unfold boundK at hb
    rw [if_neg (by omega)] at hb
    split at hb
    · simp only [Bool.and_eq_true] at hb; simpa using hb.1.1
    · simpa using hb
  simp only [lastB, decide_eq_false_iff_not] at this
  omega
end
/-- where two runs of the program itself come to -/
def PP (p : LProg) (T : Tab) (a b : Plc) : Prop := a.at_ = b.at_ ∧ ∃ s, tg T a.at_ = some s ∧ Pair p s a b
theorem PP.to {p : LProg} {T : Tab} (h : Sound p T) {k : Nat} {s s' : KSt} {i : LIns} (hk : tg T k = some s) (hi : p.code[k]? = some i) {a b : Plc} {n : Nat} (hx : (n, s') ∈ leadsK p k s i) (hn : n < p.code.length) (hP : Pair p s' a b) (ha : a.at_ = n) (hb : b.at_ = n) : PP p T a b := by
  obtain ⟨t, ht, hl⟩ := h.led hk hi hx hn
  refine ⟨by rw [ha, hb], t, by rw [ha]; exact ht, hP.mono ?_ (h.post.tok.ok _ _ ht) hl⟩
  exact leadsK_ok p k (h.post.tok.ok k s hk) i _ hx
theorem check_sys {p : LProg} {T : Tab} (h : Sound p T) : Sys p (fun c => c = 0) (PP p T) (PP p T) (Pub p) := by
  have hregs := (may_parts h.may).1
  have right : ∀ a b i, PP p T a b → p.code[a.at_]? = some i → i.op ≠ 9 → PP p T (rightP p i a) (rightP p i b) := by
    rintro a b i ⟨hab, s, hs, hP⟩ hi h9
    obtain ⟨hok, hn⟩ := h.ins hi
    obtain ⟨hbd, hq⟩ := h.faults hs hi
    have hS := h.post.tok.ok _ _ hs
    by_cases h7 : i.op = 7
    · obtain ⟨g1, g2, g10, g3, g5, g8, g9, g11, go, g7, gop⟩ := ins_regs hok
      rw [rightP_jump p a h7, rightP_jump p b h7]
      refine PP.to h hs hi (n := i.n.toNat) (s' := s) (by unfold leadsK; rw [if_pos h7]; simp) (g7 (.inl h7)).2 (hP.goTo _ _) rfl rfl
    · have hnx := h.next hs hi h7 h9
      by_cases h8 : i.op = 8
      · obtain ⟨g1, g2, g10, g3, g5, g8, g9, g11, go, g7, gop⟩ := ins_regs hok
        obtain ⟨e, hB⟩ := pair_branch hok hS hq hP h8
        rw [rightP_if p a h8, rightP_if p b h8, ← e]
        have hx : ∀ c : Bool, (if c then i.n.toNat else a.at_ + 1, branchK s i c) ∈ leadsK p a.at_ s i := by
          intro c
          unfold leadsK
          rw [if_neg h7, if_neg h9, if_pos h8]
          cases c <;> simp
        refine PP.to h hs hi (hx (nholds i.c (rg a.regs i.a) (rg a.regs i.b))) ?_ (hB.goTo _ _) rfl (by rw [← hab])
        split
        · exact (g7 (.inr h8)).2
        · exact hnx
      · have := pair_right hregs hok hn hS hq hP (fun hw => h.inside hs hi hP.ga.sat hw) h7 h8 h9
        refine PP.to h hs hi (n := a.at_ + 1) (by unfold leadsK; rw [if_neg h7, if_neg h9, if_neg h8]; simp) hnx this (rightP_at p a h7 h8) (by rw [rightP_at p b h7 h8, hab])
  refine ⟨fun a b hab => hab.1, fun _ _ hab => hab, ?_, ?_, ?_, ?_, fun a b i hab hi h9 _ => right a b i hab hi h9, right, ?_, ?_⟩
  · rintro a b ⟨hab, s, hs, hP⟩
    exact hP.mem.pub
  · rintro a b i ⟨hab, s, hs, hP⟩ hi
    exact (pair_sees (h.ins hi).1 (h.faults hs hi).2 hP).1
  · rintro a b i ⟨hab, s, hs, hP⟩ hi
    exact (pair_sees (h.ins hi).1 (h.faults hs hi).2 hP).2
  · rintro a b i c ⟨hab, s, hs, hP⟩ hi rfl
    refine .inl ⟨?_, ?_⟩ <;>
    · unfold wrongP
      simp
  · rintro a b i ⟨hab, s, hs, hP⟩ hi hw
    exact ⟨h.inside hs hi hP.ga.sat hw, h.inside hs (by exact hi) hP.gb.sat hw⟩
  · rintro a b i ⟨hab, s, hs, hP⟩ hi h9
    obtain ⟨g1, g2, g10, g3, g5, g8, g9, g11, go, g7, gop⟩ := ins_regs (h.ins hi).1
    refine hP.eq.at_ (g9 h9) ?_
    have hq := (h.faults hs hi).2
    simpa [quietK, h9] using hq
/-- two rows of words at the start -/
theorem good_start {p : LProg} {ws : List Int} (hl : ws.length = total p) (hw : ∀ x ∈ ws, R64 x) : Good p kstart ⟨List.replicate 10 0, ws, List.replicate ws.length [], 0⟩ := by
  have hz : ∀ n : Nat, (List.replicate 10 (0 : Int)).getD n 0 = 0 := fun n => by
    rw [List.getD_eq_getElem?_getD, List.getElem?_replicate]
    split <;> rfl
  have hp : ∀ n : Nat, (List.replicate ws.length ([] : List Int)).getD n [] = [] := fun n => by
    rw [List.getD_eq_getElem?_getD, List.getElem?_replicate]
    split <;> rfl
  refine ⟨by simp, fun n => ?_, fun j _ => ?_, hl, fun n => ?_, by simp [hl], fun n m => ?_⟩
  · simp only [hz]; exact r64_zero
  · simp only [hz]; exact khas_zero _
  · simp only
    rw [List.getD_eq_getElem?_getD]
    by_cases h : n < ws.length
    · simpa [h] using hw _ (List.getElem_mem h)
    · simpa [h] using r64_zero
  · simp only [hp]; simpa using r64_zero
end Go.Proofs.Yteiknefajlocoaa
/- Code whose every place bears labels of its registers tells nothing secret, not even ahead of time. No program in sight. -/
namespace Go.Proofs.Yteiknefajlocoaa
open Go.RowKit
set_option linter.unusedSimpArgs false
set_option linter.unusedVariables false

/-- true: secret -/
abbrev Lab := Nat → Bool
def lb (L : Lab) (r : Int) : Bool := L r.toNat
def lset (L : Lab) (r : Int) (x : Bool) : Lab := fun j => if j = r.toNat then x else L j
def LabLe (L M : Lab) : Prop := ∀ j, j < 10 → M j = false → L j = false
structure Base (p : LProg) (a b : Plc) : Prop where
  ra : a.regs.length = 10
  rb : b.regs.length = 10
  wa : a.words.length = total p
  wb : b.words.length = total p
  pa : a.past.length = total p
  pb : b.past.length = total p
  mem : MemR p a b
def EqL (L : Lab) (r t : List Int) : Prop := ∀ j, j < 10 → L j = false → r.getD j 0 = t.getD j 0
theorem EqL.mono {L M : Lab} {r t : List Int} (h : EqL L r t) (k : LabLe L M) : EqL M r t := fun j hj e => h j hj (k j hj e)
theorem EqL.set {L : Lab} {r t : List Int} (h : EqL L r t) (hr : r.length = 10) (ht : t.length = 10) (a : Int) {x : Bool} {v w : Int} (hv : x = false → v = w) : EqL (lset L a x) (rset r a v) (rset t a w) := fun j hj => by
  unfold lset rset
  rw [set_get, set_get, hr, ht]
  by_cases e : j = a.toNat
  · rw [if_pos e, if_pos ⟨e, hj⟩, if_pos ⟨e, hj⟩]; exact hv
  · rw [if_neg e, if_neg (by omega), if_neg (by omega)]; exact h j hj
theorem EqL.at_ {L : Lab} {r t : List Int} (h : EqL L r t) {a : Int} (ha : okIn 10 a = true) (hs : lb L a = false) : rg r a = rg t a := by
  rw [okIn_iff] at ha
  exact h a.toNat (by omega) hs
theorem Base.goTo {p : LProg} {a b : Plc} (h : Base p a b) (k l : Nat) : Base p { a with at_ := k } { b with at_ := l } := ⟨h.1, h.2, h.3, h.4, h.5, h.6, ⟨h.mem.1, h.mem.2, h.mem.3⟩⟩
theorem Base.regs {p : LProg} {a b : Plc} (h : Base p a b) (k l : Nat) {r t : List Int} (hr : r.length = 10) (ht : t.length = 10) : Base p { a with at_ := k, regs := r } { b with at_ := l, regs := t } := ⟨hr, ht, h.3, h.4, h.5, h.6, ⟨h.mem.1, h.mem.2, h.mem.3⟩⟩
section
variable {p : LProg} {Ann : Nat → Lab → Option (Int × Int) → Prop}
end
end Go.Proofs.Yteiknefajlocoaa
/- Hardened programs in plain Lean: they are hard, do the same, and tell nothing, not even ahead of time. No program in sight. -/
namespace Go.Proofs.Yteiknefajlocoaa
open Go.RowKit
set_option linter.unusedSimpArgs false
set_option linter.unusedVariables false

/-! lists of lists in one row -/
section
variable {α β : Type}
/-- where a part begins -/
def plc (f : α → List β) (l : List α) (k : Nat) : Nat := ((l.take k).flatMap f).length
theorem plc_zero (f : α → List β) (l : List α) : plc f l 0 = 0 := by simp [plc]
theorem plc_succ (f : α → List β) (l : List α) {k : Nat} {x : α} (h : l[k]? = some x) : plc f l (k + 1) = plc f l k + (f x).length := by
  obtain ⟨hk, rfl⟩ := List.getElem?_eq_some_iff.1 h
  unfold plc
  rw [List.take_succ_eq_append_getElem hk, List.flatMap_append]
  simp
theorem plc_all (f : α → List β) (l : List α) {k : Nat} (h : l.length ≤ k) : plc f l k = (l.flatMap f).length := by
  unfold plc
  rw [List.take_of_length_le h]
theorem plc_mono (f : α → List β) (l : List α) {j k : Nat} (h : j ≤ k) : plc f l j ≤ plc f l k := by
  obtain ⟨d, rfl⟩ : ∃ d, k = j + d := ⟨k - j, by omega⟩
  unfold plc
  rw [List.take_add, List.flatMap_append, List.length_append]
  omega
theorem flat_get (f : α → List β) (l : List α) {k : Nat} {x : α} (h : l[k]? = some x) (j : Nat) (hj : j < (f x).length) : (l.flatMap f)[plc f l k + j]? = (f x)[j]? := by
  obtain ⟨hk, rfl⟩ := List.getElem?_eq_some_iff.1 h
  have e : l = l.take k ++ l[k] :: l.drop (k + 1) := by
    rw [← List.drop_eq_getElem_cons hk, List.take_append_drop]
  have e2 : l.flatMap f = (l.take k).flatMap f ++ (f l[k] ++ (l.drop (k + 1)).flatMap f) := by
    conv => lhs; rw [e]
    rw [List.flatMap_append, List.flatMap_cons]
  rw [e2]
  unfold plc
  rw [List.getElem?_append_right (by omega), Nat.add_sub_cancel_left, List.getElem?_append_left hj]
theorem plc_lt (f : α → List β) (hf : ∀ x, f x ≠ []) (l : List α) {k : Nat} (h : k < l.length) : plc f l k < (l.flatMap f).length := by
  have h1 := plc_succ f l (List.getElem?_eq_getElem h)
  have h2 := plc_mono f l (show k + 1 ≤ l.length by omega)
  rw [plc_all f l (Nat.le_refl _)] at h2
  have := List.length_pos_iff.2 (hf l[k])
  omega
theorem flat_le (f : α → List β) (c : Nat) : ∀ (l : List α), (∀ x ∈ l, (f x).length ≤ c) → (l.flatMap f).length ≤ c * l.length
  | [], _ => by simp
  | x :: l, h => by
    have h1 := h x (by simp)
    have h2 := flat_le f c l fun y hy => h y (by simp [hy])
    rw [List.flatMap_cons, List.length_append, List.length_cons, Nat.mul_succ]
    omega
/-- every place is in some part -/
theorem flat_at (f : α → List β) : ∀ (l : List α) (q : Nat), q < (l.flatMap f).length → ∃ k x j, l[k]? = some x ∧ j < (f x).length ∧ q = plc f l k + j
  | [], q, h => by simp at h
  | x :: l, q, h => by
    rcases Nat.lt_or_ge q (f x).length with h1 | h1
    · exact ⟨0, x, q, by simp, h1, by simp [plc]⟩
    · rw [List.flatMap_cons, List.length_append] at h
      obtain ⟨k, y, j, e1, e2, e3⟩ := flat_at f l (q - (f x).length) (by omega)
      refine ⟨k + 1, y, j, by simpa using e1, e2, ?_⟩
      unfold plc at e3 ⊢
      rw [List.take_succ_cons, List.flatMap_cons, List.length_append]
      omega
end

def blockH (p : LProg) (i : LIns) : List LIns :=
  if i.op = 3 ∨ i.op = 4 then [⟨10, 8, i.b, 0, i.n⟩, ⟨11, 8, 0, 0, ((wordsOf (regOf p i) : Nat) : Int)⟩, ⟨i.op, i.a, 8, i.c, 0⟩] else [i]
def reloc (f : Nat → Nat) (i : LIns) : LIns := if i.op = 7 ∨ i.op = 8 then { i with n := (f i.n.toNat : Nat) } else i
def rawH (p : LProg) : List LIns := p.code.flatMap (blockH p)
def placeH (p : LProg) (k : Nat) : Nat := plc (blockH p) p.code k
def hardP (p : LProg) : LProg := ⟨p.regs, (rawH p).map (reloc (placeH p))⟩

theorem blockH_ne (p : LProg) (i : LIns) : blockH p i ≠ [] := by unfold blockH; split <;> simp
theorem blockH_len (p : LProg) (i : LIns) : (blockH p i).length = if i.op = 3 ∨ i.op = 4 then 3 else 1 := by unfold blockH; split <;> rfl
theorem hardP_len (p : LProg) : (hardP p).code.length ≤ 3 * p.code.length := by
  simp only [hardP, rawH, List.length_map]
  refine flat_le (blockH p) 3 p.code fun x _ => ?_
  rw [blockH_len]
  split <;> omega
theorem reloc_other {f : Nat → Nat} {i : LIns} (h : ¬ (i.op = 7 ∨ i.op = 8)) : reloc f i = i := by unfold reloc; rw [if_neg h]
theorem placeH_lt {p : LProg} {k : Nat} (h : k < p.code.length) : placeH p k < (hardP p).code.length := by
  simp only [hardP, rawH, List.length_map]
  exact plc_lt _ (blockH_ne p) _ h
/-- one instruction that is left as it is -/
theorem hard_one {p : LProg} {k : Nat} {i : LIns} (h : p.code[k]? = some i) (h3 : ¬ (i.op = 3 ∨ i.op = 4)) : (hardP p).code[placeH p k]? = some (reloc (placeH p) i) ∧ placeH p (k + 1) = placeH p k + 1 := by
  have e : blockH p i = [i] := by unfold blockH; rw [if_neg h3]
  have h1 := flat_get (blockH p) p.code h 0 (by rw [e]; simp)
  have h2 := plc_succ (blockH p) p.code h
  rw [e] at h1 h2
  refine ⟨?_, h2⟩
  simp only [hardP, rawH, List.getElem?_map]
  have h1' : (p.code.flatMap (blockH p))[placeH p k]? = some i := by simpa [placeH] using h1
  rw [h1']; rfl
/-- one that becomes three -/
theorem hard_three {p : LProg} {k : Nat} {i : LIns} (h : p.code[k]? = some i) (h3 : i.op = 3 ∨ i.op = 4) :
    (hardP p).code[placeH p k]? = some ⟨10, 8, i.b, 0, i.n⟩ ∧ (hardP p).code[placeH p k + 1]? = some ⟨11, 8, 0, 0, ((wordsOf (regOf p i) : Nat) : Int)⟩ ∧ (hardP p).code[placeH p k + 2]? = some ⟨i.op, i.a, 8, i.c, 0⟩ ∧ placeH p (k + 1) = placeH p k + 3 := by
  have e : blockH p i = [⟨10, 8, i.b, 0, i.n⟩, ⟨11, 8, 0, 0, ((wordsOf (regOf p i) : Nat) : Int)⟩, ⟨i.op, i.a, 8, i.c, 0⟩] := by unfold blockH; rw [if_pos h3]
  have g := fun j hj => flat_get (blockH p) p.code h j (by rw [e]; exact hj)
  have h2 := plc_succ (blockH p) p.code h
  rw [e] at h2
  simp only [e] at g
  have m : ∀ (q : Nat) (x : LIns), (p.code.flatMap (blockH p))[q]? = some x → ¬ (x.op = 7 ∨ x.op = 8) → (hardP p).code[q]? = some x := by
    intro q x hq hx
    simp only [hardP, rawH, List.getElem?_map, hq, Option.map_some, reloc_other hx]
  refine ⟨m _ _ (by simpa [placeH] using g 0 (by simp)) (by simp), m _ _ (by simpa [placeH] using g 1 (by simp)) (by simp), m _ _ (by simpa [placeH] using g 2 (by simp)) ?_, h2⟩
  show ¬ (i.op = 7 ∨ i.op = 8)
  omega
theorem insOk_regs {p q : LProg} (hr : p.regs = q.regs) {R : Int} {i : LIns} (h : insOk p R i = true) (h7 : ¬ (i.op = 7 ∨ i.op = 8)) : insOk q R i = true := by
  simp only [insOk] at *
  rw [← hr]
  by_cases e7 : i.op = 7
  · omega
  by_cases e8 : i.op = 8
  · omega
  simp only [e7, e8, if_false] at *
  exact h
/-- HARDENED, IT IS HARD -/
theorem hard_hard {p : LProg} (hm : mayOk p = true) : hardOk (hardP p) = true := by
  obtain ⟨m1, m2, m3, m4⟩ := may_parts hm
  have hl := hardP_len p
  have hpos := placeH_lt (p := p) (k := 0) (by omega)
  simp only [hardOk, progOk, Bool.and_eq_true, decide_eq_true_eq, List.all_eq_true]
  refine ⟨⟨⟨m1, by omega⟩, by omega⟩, fun x hx => ?_⟩
  obtain ⟨q, hq, rfl⟩ := List.getElem_of_mem hx
  have hq' : q < (p.code.flatMap (blockH p)).length := by simpa [hardP, rawH] using hq
  obtain ⟨k, i, j, h1, h2, h3⟩ := flat_at (blockH p) p.code q hq'
  have hi := m4 i (List.mem_of_getElem? h1)
  have hi10 := insOk_mono (S := 10) (by omega) hi
  obtain ⟨g1, g2, g10, g3, g5, g8, g9, g11, go, g7, gop⟩ := ins_regs hi
  suffices h : ∀ y, (hardP p).code[q]? = some y → insOk (hardP p) 10 y = true from h _ (List.getElem?_eq_getElem hq)
  intro y hy
  by_cases e3 : i.op = 3 ∨ i.op = 4
  · obtain ⟨a1, a2, a3, a4⟩ := hard_three h1 e3
    rw [blockH_len, if_pos e3] at h2
    have hb := g3 e3
    have hc := (region_there hi (by simp only [isPut, isTake, Bool.or_eq_true, decide_eq_true_eq]; omega))
    have hw := words_le (regOf p i) (regsOk_log m1 (regOf p i) (by unfold regOf; simp [hc.2])).2
    have hw0 := words_pos (regOf p i)
    simp only [okIn_iff] at hb
    have hj : j = 0 ∨ j = 1 ∨ j = 2 := by omega
    have hcr : i.c < p.regs.length := by omega
    unfold placeH at a1 a2 a3
    rcases hj with rfl | rfl | rfl
    · rw [h3, Nat.add_zero, a1] at hy
      obtain rfl := Option.some.inj hy
      simp [insOk, okIn]; omega
    · rw [h3, a2] at hy
      obtain rfl := Option.some.inj hy
      simp [insOk, okIn]; omega
    · rw [h3, a3] at hy
      obtain rfl := Option.some.inj hy
      have hrl : (hardP p).regs.length = p.regs.length := rfl
      rcases e3 with e | e <;> simp [insOk, okIn, e] <;> omega
  · obtain ⟨a1, a2⟩ := hard_one h1 e3
    rw [blockH_len, if_neg e3] at h2
    obtain rfl : j = 0 := by omega
    unfold placeH at a1
    rw [h3, Nat.add_zero, a1] at hy
    obtain rfl := Option.some.inj hy
    by_cases e7 : i.op = 7 ∨ i.op = 8
    · have ht := placeH_lt (g7 e7).2
      unfold placeH at ht
      unfold reloc
      rw [if_pos e7]
      simp only [insOk] at hi10 ⊢
      rcases e7 with e | e
      · simp [e, okIn] at hi10 ⊢; refine ⟨?_, ?_⟩ <;> omega
      · simp [e, okIn] at hi10 ⊢; omega
    · rw [reloc_other e7]
      exact insOk_regs (p := p) (q := hardP p) rfl hi10 e7

/-! labels -/
theorem LabLe.trans {L M N : Lab} (h : LabLe L M) (k : LabLe M N) : LabLe L N := fun j hj e => h j hj (k j hj e)
end Go.Proofs.Yteiknefajlocoaa
/- How programs and memories lie in memory. No program in sight. -/
namespace Go.Proofs.Yteiknefajlocoaa
open Go.RowKit


/-- n rows of c cells lie at block b from o on, if there is one at all -/
structure Rows (w : World) (oa : Option Addr) (b o n c : Nat) (f : Nat → Nat → Value) : Prop where
  at_ : 0 < n → oa = some ⟨b, o, none⟩
  cell : ∀ i j, i < n → j < c → w.cell? ⟨b, o + i * c + j, none⟩ = some (f i j)
theorem Rows.ext {w w' : World} {oa : Option Addr} {b o n c : Nat} {f : Nat → Nat → Value} (h : Rows w oa b o n c f) (hx : Ext w w') : Rows w' oa b o n c f :=
  ⟨h.at_, fun i j hi hj => hx.kept (h.cell i j hi hj)⟩

def regCell (r : LReg) : Nat → Value
  | 0 => .int .i64 r.log
  | _ => .bool r.secret
def insCell (i : LIns) : Nat → Value
  | 0 => .int .i64 i.op
  | 1 => .int .i64 i.a
  | 2 => .int .i64 i.b
  | 3 => .int .i64 i.c
  | _ => .int .i64 i.n
def LIns.fits (i : LIns) : Prop := R64 i.op ∧ R64 i.a ∧ R64 i.b ∧ R64 i.c ∧ R64 i.n

/-- a slice that reads as these regions -/
def RegsAt (w : World) (v : Value) (l : List LReg) : Prop :=
  (∀ r ∈ l, R64 r.log) ∧ ∃ oa cap b o, v = .slice oa l.length cap ∧ l.length ≤ cap ∧ cap ≤ maxLen ∧ Rows w oa b o l.length 2 fun i => regCell (l.getD i default)
def CodeAt (w : World) (v : Value) (l : List LIns) : Prop :=
  (∀ i ∈ l, i.fits) ∧ ∃ oa cap b o, v = .slice oa l.length cap ∧ l.length ≤ cap ∧ cap ≤ maxLen ∧ Rows w oa b o l.length 5 fun i => insCell (l.getD i default)
def ProgAt (w : World) (v : Value) (p : LProg) : Prop := ∃ v1 v2, v = .agg #[v1, v2] ∧ RegsAt w v1 p.regs ∧ CodeAt w v2 p.code
/-- a slice that reads as these numbers -/
def IntsAt (w : World) (v : Value) (l : List Int) : Prop :=
  (∀ x ∈ l, R64 x) ∧ ∃ oa cap b o, v = .slice oa l.length cap ∧ l.length ≤ cap ∧ cap ≤ maxLen ∧ Rows w oa b o l.length 1 fun i _ => .int .i64 (l.getD i default)
def MemAt (w : World) (v : Value) (m : List (List Int)) : Prop :=
  ∃ oa cap b o, v = .slice oa m.length cap ∧ m.length ≤ cap ∧ cap ≤ maxLen ∧ ∃ vs : Nat → Value, Rows w oa b o m.length 1 (fun i _ => vs i) ∧ ∀ i, i < m.length → IntsAt w (vs i) (m.getD i default)
theorem RegsAt.ext {w w' : World} {v : Value} {l : List LReg} (h : RegsAt w v l) (hx : Ext w w') : RegsAt w' v l := by
  obtain ⟨h0, oa, cap, b, o, h1, h2, h3, h4⟩ := h
  exact ⟨h0, oa, cap, b, o, h1, h2, h3, h4.ext hx⟩
theorem CodeAt.ext {w w' : World} {v : Value} {l : List LIns} (h : CodeAt w v l) (hx : Ext w w') : CodeAt w' v l := by
  obtain ⟨h0, oa, cap, b, o, h1, h2, h3, h4⟩ := h
  exact ⟨h0, oa, cap, b, o, h1, h2, h3, h4.ext hx⟩
theorem ProgAt.ext {w w' : World} {v : Value} {p : LProg} (h : ProgAt w v p) (hx : Ext w w') : ProgAt w' v p := by
  obtain ⟨v1, v2, h1, h2, h3⟩ := h
  exact ⟨v1, v2, h1, h2.ext hx, h3.ext hx⟩
theorem IntsAt.ext {w w' : World} {v : Value} {l : List Int} (h : IntsAt w v l) (hx : Ext w w') : IntsAt w' v l := by
  obtain ⟨h0, oa, cap, b, o, h1, h2, h3, h4⟩ := h
  exact ⟨h0, oa, cap, b, o, h1, h2, h3, h4.ext hx⟩
theorem MemAt.ext {w w' : World} {v : Value} {m : List (List Int)} (h : MemAt w v m) (hx : Ext w w') : MemAt w' v m := by
  obtain ⟨oa, cap, b, o, h1, h2, h3, vs, h4, h5⟩ := h
  exact ⟨oa, cap, b, o, h1, h2, h3, vs, h4.ext hx, fun i hi => (h5 i hi).ext hx⟩

theorem Rows.reg {w : World} {oa : Option Addr} {b o : Nat} {l : List LReg} (h : Rows w oa b o l.length 2 fun i => regCell (l.getD i default)) (k : Nat) (hk : k < l.length) :
    w.cell? ⟨b, o + k * 2, none⟩ = some (.int .i64 (l.getD k default).log) ∧ w.cell? ⟨b, o + k * 2 + 1, none⟩ = some (.bool (l.getD k default).secret) :=
  ⟨h.cell k 0 hk (by omega), h.cell k 1 hk (by omega)⟩
theorem Rows.ins {w : World} {oa : Option Addr} {b o : Nat} {l : List LIns} (h : Rows w oa b o l.length 5 fun i => insCell (l.getD i default)) (k : Nat) (hk : k < l.length) :
    w.cell? ⟨b, o + k * 5, none⟩ = some (.int .i64 (l.getD k default).op) ∧ w.cell? ⟨b, o + k * 5 + 1, none⟩ = some (.int .i64 (l.getD k default).a) ∧ w.cell? ⟨b, o + k * 5 + 2, none⟩ = some (.int .i64 (l.getD k default).b) ∧
      w.cell? ⟨b, o + k * 5 + 3, none⟩ = some (.int .i64 (l.getD k default).c) ∧ w.cell? ⟨b, o + k * 5 + 4, none⟩ = some (.int .i64 (l.getD k default).n) :=
  ⟨h.cell k 0 hk (by omega), h.cell k 1 hk (by omega), h.cell k 2 hk (by omega), h.cell k 3 hk (by omega), h.cell k 4 hk (by omega)⟩
theorem Rows.one {w : World} {oa : Option Addr} {b o n : Nat} {f : Nat → Value} (h : Rows w oa b o n 1 fun i _ => f i) (k : Nat) (hk : k < n) :
    w.cell? ⟨b, o + k, none⟩ = some (f k) := by
  have := h.cell k 0 hk (by omega)
  simpa using this
theorem getD_mem {α : Type} [Inhabited α] {l : List α} {k : Nat} (hk : k < l.length) : l.getD k default ∈ l := by
  simp [hk]

theorem len_bd {n cap : Nat} (h : n ≤ cap) (hn : cap ≤ maxLen) : (n : Int) ≤ 9223372036854775807 := by
  unfold maxLen at hn
  omega

end Go.Proofs.Yteiknefajlocoaa
/- Small laws of memory: what is kept; blocks laid just now. No program in sight. -/
namespace Go.Proofs.Yteiknefajlocoaa
open Go.ChangeShapes Go.WideShapes Go.ChangeAt Go.RowKit

theorem kept2 {w w' : World} {p : Addr} {v : Value} (hx : Ext w w') (h : w.cell? p = some v ∧ w.frozen? p = false) : w'.cell? p = some v ∧ w'.frozen? p = false :=
  ⟨hx.kept h.1, (hx.frozen (block_lt h.1)).trans h.2⟩
theorem set_same {w : World} {p : Addr} {v u : Value} (h : w.cell? p = some v ∧ w.frozen? p = false) : (w.setCell p u).cell? p = some u ∧ (w.setCell p u).frozen? p = false :=
  ⟨World.cell?_setCell_same _ _ _ h.1, (World.frozen?_setCell w p p u).trans h.2⟩
theorem one_new (w : World) (T : TypeId) (a0 a1 : Value) : ((w.alloc (.cells #[a0, a1] T)).cell? ⟨w.heap.size, 0, none⟩ = some a0 ∧ (w.alloc (.cells #[a0, a1] T)).frozen? ⟨w.heap.size, 0, none⟩ = false) ∧
    ((w.alloc (.cells #[a0, a1] T)).cell? ⟨w.heap.size, 1, none⟩ = some a1 ∧ (w.alloc (.cells #[a0, a1] T)).frozen? ⟨w.heap.size, 1, none⟩ = false) := by
  have h0 := Blk.new w T #[a0, a1]
  exact ⟨⟨by rw [h0.cell]; rfl, h0.frozen 0⟩, ⟨by rw [h0.cell]; rfl, h0.frozen 1⟩⟩
theorem new2 (w : World) (T : TypeId) (v0 v1 : Value) : ∃ W g, w.heap.size = g ∧ w.alloc (.cells #[v0, v1] T) = W ∧ Ext w W ∧ (W.cell? ⟨g, 0, none⟩ = some v0 ∧ W.frozen? ⟨g, 0, none⟩ = false) ∧ (W.cell? ⟨g, 1, none⟩ = some v1 ∧ W.frozen? ⟨g, 1, none⟩ = false) :=
  ⟨_, _, rfl, rfl, (Ext.refl _).alloc _, (one_new w T v0 v1).1, (one_new w T v0 v1).2⟩
theorem some_alloc {W : World} {p : Addr} {o : Obj} (h : (W.cell? p).isSome = true) : ((W.alloc o).cell? p).isSome = true := by
  obtain ⟨v, hv⟩ := Option.isSome_iff_exists.1 h
  rw [((Ext.refl W).alloc o).kept hv]; rfl
theorem blocks2 (w : World) (A B : Array Value) (S T : TypeId) : ∃ W g, w.heap.size = g ∧ (w.alloc (.cells A S)).alloc (.cells B T) = W ∧ Ext w W ∧ Blk W g S A ∧ Blk W (g + 1) T B := by
  have h0 := (Blk.new w S A).alloc (.cells B T)
  have h1 := Blk.new (w.alloc (.cells A S)) T B
  simp only [World.size_alloc] at h1
  exact ⟨_, _, rfl, rfl, ((Ext.refl w).alloc _).alloc _, h0, h1⟩
theorem blocks3 (w : World) (A B C : Array Value) (S T U : TypeId) : ∃ W g, w.heap.size = g ∧ ((w.alloc (.cells A S)).alloc (.cells B T)).alloc (.cells C U) = W ∧ Ext w W ∧ Blk W g S A ∧ Blk W (g + 1) T B ∧ Blk W (g + 1 + 1) U C := by
  have h0 := ((Blk.new w S A).alloc (.cells B T)).alloc (.cells C U)
  have h1 := (Blk.new (w.alloc (.cells A S)) T B).alloc (.cells C U)
  have h2 := Blk.new ((w.alloc (.cells A S)).alloc (.cells B T)) U C
  simp only [World.size_alloc] at h1 h2
  exact ⟨_, _, rfl, rfl, (((Ext.refl w).alloc _).alloc _).alloc _, h0, h1, h2⟩
end Go.Proofs.Yteiknefajlocoaa
/- One old cell turned, all else as it was: no program in sight. -/
namespace Go.Proofs.Yteiknefajlocoaa
open Go.RowKit

theorem heap_setCell_same (w : World) (p : Addr) (v v' : Value) (b : Nat) : ((w.setCell p v).setCell p v').heap[b]? = (w.setCell p v').heap[b]? := by
  simp only [World.setCell, Array.getElem?_modify]
  by_cases h : p.block = b
  · simp only [h, if_true]
    cases w.heap[b]? with
    | none => rfl
    | some o => cases o <;> simp <;> split <;> simp
  · simp only [h, if_false]
theorem setCell_size (w : World) (p : Addr) (v : Value) : (w.setCell p v).heap.size = w.heap.size := by simp [World.setCell]
theorem setCell_congr {w w' : World} (p : Addr) (v : Value) (b : Nat) (h : w'.heap[b]? = w.heap[b]?) : (w'.setCell p v).heap[b]? = (w.setCell p v).heap[b]? := by
  simp only [World.setCell, Array.getElem?_modify, h]
/-- one old cell turned twice -/
theorem upd_trans {w w1 w2 : World} {p : Addr} {v v' : Value} (h : Ext (w.setCell p v) w1) (k : Ext (w1.setCell p v') w2) : Ext (w.setCell p v') w2 := by
  have hs : w.heap.size ≤ w1.heap.size := by have := h.size; rwa [setCell_size] at this
  refine ⟨k.os.trans (h.os), k.tape.trans h.tape, k.output.trans h.output, ?_, fun b hb => ?_⟩
  · have := k.size
    rw [setCell_size] at this ⊢
    omega
  · rw [setCell_size] at hb
    rw [k.block b (by rw [setCell_size]; omega), setCell_congr p v' b (h.block b (by rw [setCell_size]; exact hb)), heap_setCell_same]
/-- what is there already is put again -/
theorem upd_refl {w w' : World} {p : Addr} {v : Value} (hc : w.cell? p = some v) (h : Ext w w') : Ext (w.setCell p v) w' := by
  refine ⟨h.os, h.tape, h.output, by rw [setCell_size]; exact h.size, fun b hb => ?_⟩
  rw [setCell_size] at hb
  rw [h.block b hb]
  simp only [World.setCell, Array.getElem?_modify]
  by_cases e : p.block = b
  · subst e
    simp only [if_true]
    unfold World.cell? at hc
    cases hx : w.heap[p.block]? with
    | none => rfl
    | some o =>
      rw [hx] at hc
      cases o with
      | cells c t fz =>
        simp only at hc
        by_cases hsp : p.spot.isSome = true
        · simp [hsp] at hc
        · simp only [hsp, Bool.false_eq_true, if_false] at hc
          have : c.setIfInBounds p.off v = c := by
            apply Array.ext_getElem?
            intro j
            by_cases hj : p.off = j
            · subst hj
              rw [Array.getElem?_setIfInBounds_self_of_lt (Array.getElem?_eq_some_iff.1 hc).1, hc]
            · rw [Array.getElem?_setIfInBounds_ne hj]
          simp [hsp, this]
      | _ => rfl
  · simp [e]
/-- new blocks ahead of it -/
theorem upd_after {w w1 w2 : World} {p : Addr} {v : Value} (h : Ext w w1) (k : Ext (w1.setCell p v) w2) : Ext (w.setCell p v) w2 := by
  refine ⟨k.os.trans h.os, k.tape.trans h.tape, k.output.trans h.output, ?_, fun b hb => ?_⟩
  · have := k.size
    have := h.size
    rw [setCell_size] at *
    omega
  · rw [setCell_size] at hb
    rw [k.block b (by rw [setCell_size]; exact h.lt hb), setCell_congr p v b (h.block b hb)]
/-- the cell that was turned -/
theorem upd_same {w w' : World} {p : Addr} {v u : Value} (h : Ext (w.setCell p v) w') (hc : w.cell? p = some u ∧ w.frozen? p = false) : w'.cell? p = some v ∧ w'.frozen? p = false := by
  have := set_same (u := v) hc
  exact ⟨h.kept this.1, (h.frozen (by rw [setCell_size]; exact block_lt hc.1)).trans this.2⟩
theorem upd_cell {w w' : World} {p q : Addr} {v u : Value} (h : Ext (w.setCell p v) w') (hne : p ≠ q) (hc : w.cell? q = some u) : w'.cell? q = some u :=
  h.kept ((World.cell?_setCell_other w p q v hne).trans hc)
/-- the cell being new, nothing old has turned -/
theorem upd_new {w0 w w' : World} {p : Addr} {v : Value} (h : Ext (w.setCell p v) w') (h0 : Ext w0 w) (hp : w0.heap.size ≤ p.block) : Ext w0 w' := (h0.setCell hp v).trans h
end Go.Proofs.Yteiknefajlocoaa
/- The reference's rounds over all instructions (chapter 6), plainly: what is known in every round; the table is the least at the end. No program in sight. -/
namespace Go.Proofs.Yteiknefajlocoaa
open Go
set_option linter.unusedVariables false
set_option linter.unusedSimpArgs false

/-- where an instruction leads, as the reference lists it -/
def leads6 (p : LProg) (at_ : Nat) (s : KSt) (i : LIns) : List (Nat × KSt) :=
  if i.op = 7 then [(i.n.toNat, s)]
  else if i.op = 9 then []
  else if i.op = 8 then [(i.n.toNat, branchK s i true), (at_ + 1, branchK s i false)]
  else [(at_ + 1, oneK p s i)]
theorem leads6_mem (p : LProg) (at_ : Nat) (s : KSt) (i : LIns) (x : Nat × KSt) : x ∈ leads6 p at_ s i ↔ x ∈ leadsK p at_ s i := by
  unfold leads6 leadsK
  repeat' split
  all_goals simp
  exact Or.comm
theorem leads6_len (p : LProg) (at_ : Nat) (s : KSt) (i : LIns) : (leads6 p at_ s i).length ≤ 2 := by
  unfold leads6
  repeat' split
  all_goals simp
theorem joinT_phi {p : LProg} {T : Tab} (h : Tok p T) {x : Nat × KSt} (hs : Sok x.2) (hx : x.1 < p.code.length) : phi (joinT T x) ≤ phi T ∧ (joinT T x ≠ T → phi (joinT T x) < phi T) := by
  have hxT : x.1 < T.length := by rw [h.len]; exact hx
  unfold joinT
  cases ht : tg T x.1 with
  | none =>
    have := phi_set T x.1 (some x.2) hxT
    rw [ht] at this
    simp only [ph] at this
    simp only
    exact ⟨by omega, fun _ => by omega⟩
  | some t =>
    have hk := h.ok _ _ ht
    have hj := sjoin_ok x.2 t
    have := phi_set T x.1 (some (sjoin x.2 t)) hxT
    rw [ht] at this
    simp only [ph] at this
    have r1 := rank_mono t (sjoin x.2 t) (by rw [hk.len, hj.len]) hk.ok hj.ok (sjoin_le2 hk)
    have r2 := rank_144 hk
    have r3 := rank_144 hj
    simp only
    refine ⟨by omega, fun hne => ?_⟩
    by_cases e : rank t = rank (sjoin x.2 t)
    · exfalso
      apply hne
      rw [← r1.2 e]
      exact tg_same ht hxT
    · omega

/-- what is known in a round, at an instruction -/
structure A6 (p : LProg) (T0 T : Tab) (again : Bool) (at_ : Nat) : Prop where
  tok : Tok p T
  under : Under p T
  first : ∃ s, tg T 0 = some s ∧ Sle kstart s
  less : phi T ≤ phi T0
  still : again = false → T = T0 ∧ ∀ j, j < at_ → ∀ s, tg T j = some s → ∀ x ∈ leadsK p j s (insAt p j), Led p T x
  some_ : again = true → phi T < phi T0
structure K6 (p : LProg) (T0 T : Tab) (again : Bool) (at_ : Nat) (s : KSt) (k : Nat) : Prop where
  a6 : A6 p T0 T again at_
  here : ∃ s', tg T at_ = some s' ∧ Sle s s'
  same : again = false → tg T at_ = some s
  led : again = false → ∀ j, j < k → Led p T ((leads6 p at_ s (insAt p at_)).getD j default)
theorem A6.begin {p : LProg} {T : Tab} (h1 : Tok p T) (h2 : Under p T) (h3 : ∃ s, tg T 0 = some s ∧ Sle kstart s) : A6 p T T false 0 :=
  ⟨h1, h2, h3, Nat.le_refl _, fun _ => ⟨rfl, fun j hj => by omega⟩, fun h => by cases h⟩
theorem A6.skip {p : LProg} {T0 T : Tab} {again : Bool} {at_ : Nat} (h : A6 p T0 T again at_) (hn : tg T at_ = none) : A6 p T0 T again (at_ + 1) :=
  ⟨h.tok, h.under, h.first, h.less, fun e => ⟨(h.still e).1, fun j hj s hs => by
    by_cases hja : j = at_
    · subst hja; rw [hn] at hs; cases hs
    · exact (h.still e).2 j (by omega) s hs⟩, h.some_⟩
theorem K6.begin {p : LProg} {T0 T : Tab} {again : Bool} {at_ : Nat} {s : KSt} (h : A6 p T0 T again at_) (hs : tg T at_ = some s) : K6 p T0 T again at_ s 0 :=
  ⟨h, ⟨s, hs, Sle.refl s⟩, fun _ => hs, fun _ j hj => by omega⟩
theorem K6.beyond {p : LProg} {T0 T : Tab} {again : Bool} {at_ : Nat} {s : KSt} {k : Nat} (h : K6 p T0 T again at_ s k) (hx : p.code.length ≤ ((leads6 p at_ s (insAt p at_)).getD k default).1) : K6 p T0 T again at_ s (k + 1) :=
  ⟨h.a6, h.here, h.same, fun e j hj => by
    by_cases hjk : j = k
    · subst hjk; intro hl; omega
    · exact h.led e j (by omega)⟩
theorem K6.join {p : LProg} {T0 T : Tab} {again : Bool} {at_ : Nat} {s : KSt} {k : Nat} (h : K6 p T0 T again at_ s k) (hs : Sok s) (hk : k < (leads6 p at_ s (insAt p at_)).length) {x : Nat × KSt} (hxe : (leads6 p at_ s (insAt p at_)).getD k default = x) (hx : x.1 < p.code.length) :
    K6 p T0 (joinT T x) (again || decide (joinT T x ≠ T)) at_ s (k + 1) := by
  have hm : x ∈ leadsK p at_ s (insAt p at_) := by
    rw [← leads6_mem, ← hxe]
    simp [hk]
  have hsx := leadsK_ok p at_ hs (insAt p at_) x hm
  have hT := h.a6.tok
  have hup := joinT_above hT hsx hx
  have hph := joinT_phi hT hsx hx
  have hled := joinT_led hT hsx (x := x)
  have hTu := joinT_under hT h.a6.under h.here hs hm hx
  refine ⟨⟨joinT_tok hT hsx hx, hTu, ?_, ?_, fun e => ?_, fun e => ?_⟩, ?_, fun e => ?_, fun e j hj => ?_⟩
  · obtain ⟨t, h1, h2⟩ := h.a6.first
    obtain ⟨u, h3, h4⟩ := hup 0 t h1
    exact ⟨u, h3, h2.trans h4⟩
  · have := h.a6.less
    omega
  · simp only [Bool.or_eq_false_iff, decide_eq_false_iff_not, Decidable.not_not] at e
    rw [e.2]
    exact h.a6.still e.1
  · simp only [Bool.or_eq_true, decide_eq_true_eq] at e
    rcases e with e | e
    · have := h.a6.some_ e
      omega
    · have := h.a6.less
      have := hph.2 e
      omega
  · obtain ⟨t, h1, h2⟩ := h.here
    obtain ⟨u, h3, h4⟩ := hup at_ t h1
    exact ⟨u, h3, h2.trans h4⟩
  · simp only [Bool.or_eq_false_iff, decide_eq_false_iff_not, Decidable.not_not] at e
    rw [e.2]
    exact h.same e.1
  · simp only [Bool.or_eq_false_iff, decide_eq_false_iff_not, Decidable.not_not] at e
    by_cases hjk : j = k
    · subst hjk
      rw [hxe]
      exact hled
    · rw [e.2]
      exact h.led e.1 j (by omega)
theorem K6.end_ {p : LProg} {T0 T : Tab} {again : Bool} {at_ : Nat} {s : KSt} {k : Nat} (h : K6 p T0 T again at_ s k) (hk : (leads6 p at_ s (insAt p at_)).length ≤ k) : A6 p T0 T again (at_ + 1) :=
  ⟨h.a6.tok, h.a6.under, h.a6.first, h.a6.less, fun e => ⟨(h.a6.still e).1, fun j hj t ht x hx => by
    by_cases hja : j = at_
    · subst hja
      rw [h.same e] at ht
      obtain rfl := Option.some.inj ht
      rw [← leads6_mem] at hx
      obtain ⟨n, hn, rfl⟩ := List.getElem_of_mem hx
      have := h.led e n (by omega)
      simpa [hn] using this
    · exact (h.a6.still e).2 j (by omega) t ht x hx⟩, h.a6.some_⟩
/-- a round that turns nothing: the table is the least -/
theorem A6.least {p : LProg} {T0 T : Tab} {at_ : Nat} (h : A6 p T0 T false at_) (hat : p.code.length ≤ at_) : Least p T :=
  ⟨⟨h.tok, h.first, fun j s hs => (h.still rfl).2 j (by
    have := h.tok.len
    rcases Nat.lt_or_ge j at_ with h1 | h1
    · exact h1
    · exfalso
      unfold tg at hs
      rw [List.getD_eq_getElem?_getD, List.getElem?_eq_none (by omega)] at hs
      cases hs) s hs⟩, h.under⟩
end Go.Proofs.Yteiknefajlocoaa
/- The words of all public regions: region by region, and in one row. No memory, no program in sight. -/
namespace Go.Proofs.Yteiknefajlocoaa
open Go.RowKit
set_option linter.unusedSimpArgs false
set_option linter.unusedVariables false

end Go.Proofs.Yteiknefajlocoaa
