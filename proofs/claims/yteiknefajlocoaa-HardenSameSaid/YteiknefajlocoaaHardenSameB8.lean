/- Laid together from: Sim. -/
import Derived.Test.YteiknefajlocoaaHardenSameB7

/- One run that does what another one does, a few steps for each: the frame, and the hardened program. No program in sight. -/
namespace Go.Proofs.Yteiknefajlocoaa
open Go.RowKit
set_option linter.unusedSimpArgs false
set_option linter.unusedVariables false

/-! a run of a program without fault: its state is known at each step -/
def toP (p : LProg) (m : Mach) : Plc := ⟨m.regs, m.words, List.replicate (total p) [], m.at_⟩
structure On (p : LProg) (T : Tab) (m : Mach) (s : KSt) : Prop where
  tg : tg T m.at_ = some s
  good : Good p s (toP p m)
theorem Good.past_ {p : LProg} {s : KSt} {a : Plc} (h : Good p s a) : Good p s { a with past := List.replicate (total p) [] } := by
  refine ⟨h.regs, h.r64, h.sat, h.words, h.w64, by simp, fun n m => ?_⟩
  simp only
  rw [List.getD_eq_getElem?_getD (l := List.replicate _ _), List.getElem?_replicate]
  split <;> simpa using r64_zero
theorem memR_refl (p : LProg) (a : Plc) : MemR p a a := ⟨fun _ _ => rfl, fun _ => rfl, fun _ _ => rfl⟩
theorem pair_refl {p : LProg} {s : KSt} {a : Plc} (h : Good p s a) : Pair p s a a := ⟨h, h, fun _ _ _ => rfl, memR_refl p a⟩
/-- a step, by what it does to a place -/
theorem stepM_right {p : LProg} {i : LIns} {m : Mach} (hp : regsOk p.regs = true) (hr : isWord i = true → i.c.toNat < p.regs.length) (hl : m.words.length = total p) (h9 : i.op ≠ 9) (hin : isWord i = true → insideB p i (idxOf m.regs i) = true) :
    (stepM p i m).fin = m.fin ∧ (stepM p i m).regs = (rightP p i (toP p m)).regs ∧ (stepM p i m).words = (rightP p i (toP p m)).words ∧ (stepM p i m).at_ = (rightP p i (toP p m)).at_ := by
  by_cases h7 : i.op = 7
  · rw [rightP_jump p _ h7]
    simp [stepM, h7, toP]
  by_cases h8 : i.op = 8
  · rw [rightP_if p _ h8]
    simp [stepM, h8, toP]
    rfl
  cases hw : isWord i
  · obtain ⟨w3, w4, w5, w6, hpt, htk⟩ := not_word hw
    rw [rightP_plain p _ hw h7 h8 h9]
    simp [stepM, h7, h8, h9, toP, hpt, htk]
  · have hin' := hin hw
    obtain ⟨i1, i2, i3, i4⟩ := idx_small hp (hr hw) hin'
    have hwn : wordN p i (toP p m) = ((baseOf p i.c.toNat + (idxOf m.regs i).toNat : Nat) : Int) := i4
    have hth : thereB p i (toP p m) = true := by
      simp only [thereB, Bool.and_eq_true, decide_eq_true_eq]
      rw [hwn]
      show (0 : Int) ≤ _ ∧ _ < ((m.words.length : Nat) : Int)
      rw [hl]; omega
    have hop := word_ops hw
    have hpt : (isPut i || isTake i) = true := hw
    cases hput : isPut i
    · have ht : isTake i = true := by simpa [hput] using hpt
      rw [rightP_take p _ ht, hth, if_pos rfl, hwn, Int.toNat_natCast]
      unfold stepM
      simp [h7, h8, h9, hput, ht, hin', toP]
    · rw [rightP_put p _ hput hth, hwn, Int.toNat_natCast]
      unfold stepM
      simp [h7, h8, h9, hput, hin', toP]
/-- a step goes on, where the program is without fault -/
theorem on_step {p : LProg} {T : Tab} (S : Sound p T) {m : Mach} {s : KSt} (h : On p T m s) {i : LIns} (hi : p.code[m.at_]? = some i) (h9 : i.op ≠ 9) :
    (isWord i = true → insideB p i (idxOf m.regs i) = true) ∧ (stepM p i m).fin = m.fin ∧ ∃ s', On p T (stepM p i m) s' := by
  have hin : isWord i = true → insideB p i (idxOf m.regs i) = true := fun hw => S.inside h.tg hi h.good.sat hw
  have hregs := (may_parts S.may).1
  obtain ⟨e1, e2, e3, e4⟩ := stepM_right (m := m) hregs (fun hw => (region_there (S.ins hi).1 hw).2) h.good.words h9 hin
  refine ⟨hin, e1, ?_⟩
  obtain ⟨-, s', hs', hP⟩ := (check_sys S).rightN (toP p m) (toP p m) i ⟨rfl, s, h.tg, pair_refl h.good⟩ hi h9
  refine ⟨s', by rw [e4]; exact hs', ?_⟩
  have := hP.ga.past_
  refine ⟨?_, ?_, ?_, ?_, ?_, ?_, ?_⟩
  · simp only [toP]; rw [e2]; exact this.regs
  · simp only [toP]; rw [e2]; exact this.r64
  · simp only [toP]; rw [e2]; exact this.sat
  · simp only [toP]; rw [e3]; exact this.words
  · simp only [toP]; rw [e3]; exact this.w64
  · simp [toP]
  · exact this.p64
theorem on_start {p : LProg} {T : Tab} (S : Sound p T) {ws : List Int} (hl : ws.length = total p) (hw : ∀ x ∈ ws, R64 x) : ∃ s, On p T (start ws) s := by
  obtain ⟨s0, e0, l0⟩ := S.post.first
  refine ⟨s0, e0, ?_⟩
  have := (good_start hl hw).mono kstart_ok (S.post.tok.ok _ _ e0) l0
  rw [hl] at this
  exact this

/-! the frame -/
/-- what a step of the one takes of the other: at most c steps -/
structure Simu (p h : LProg) (c : Nat) (R : Mach → Mach → Prop) : Prop where
  fs : ∀ m n, R m n → m.fin = 0 ∧ n.fin = 0
  there : ∀ m n, R m n → ∃ i, p.code[m.at_]? = some i
  step : ∀ m n i, R m n → p.code[m.at_]? = some i → ∃ j, j ≤ c ∧ ((stepM p i m).fin = 0 → R (stepM p i m) (runM h j n)) ∧ ((stepM p i m).fin ≠ 0 → (runM h j n).fin = (stepM p i m).fin ∧ (runM h j n).value = (stepM p i m).value ∧ (runM h j n).words = (stepM p i m).words)
theorem simu_run {p h : LProg} {c : Nat} {R : Mach → Mach → Prop} (S : Simu p h c R) : ∀ (k : Nat) (m n : Mach), R m n →
    ∃ j, j ≤ c * k ∧ ((runM p k m).fin = 0 → R (runM p k m) (runM h j n)) ∧ ((runM p k m).fin ≠ 0 → (runM h j n).fin = (runM p k m).fin ∧ (runM h j n).value = (runM p k m).value ∧ (runM h j n).words = (runM p k m).words)
  | 0, m, n, hR => ⟨0, by omega, fun _ => hR, fun hf => absurd (S.fs m n hR).1 hf⟩
  | k + 1, m, n, hR => by
    obtain ⟨f1, f2⟩ := S.fs m n hR
    obtain ⟨i, hi⟩ := S.there m n hR
    obtain ⟨j, hj, a, b⟩ := S.step m n i hR hi
    rw [runM, if_neg (by simp [f1]), hi]
    simp only []
    by_cases hz : (stepM p i m).fin = 0
    · obtain ⟨j2, hj2, a2, b2⟩ := simu_run S k _ _ (a hz)
      refine ⟨j + j2, by rw [Nat.mul_succ]; omega, ?_⟩
      rw [runM_add]
      exact ⟨a2, b2⟩
    · rw [runM_end hz]
      exact ⟨j, by rw [Nat.mul_succ]; exact Nat.le_trans hj (Nat.le_add_left _ _), fun h0 => absurd h0 hz, b⟩
theorem simu_same {p h : LProg} {c : Nat} {R : Mach → Mach → Prop} (S : Simu p h c R) {m n : Mach} (hR : R m n) (k f : Nat) (hf : c * k ≤ f) (he : (runM p k m).fin ≠ 0) : (runM h f n).fin = (runM p k m).fin ∧ (runM h f n).value = (runM p k m).value ∧ (runM h f n).words = (runM p k m).words := by
  obtain ⟨j, hj, -, b⟩ := simu_run S k m n hR
  obtain ⟨d, rfl⟩ : ∃ d, f = j + d := ⟨f - j, by omega⟩
  rw [runM_add, runM_end (by rw [(b he).1]; exact he)]
  exact b he

/-! registers that are the same -/
def Eq8 (r t : List Int) : Prop := r.length = 10 ∧ t.length = 10 ∧ ∀ j, j < 8 → r.getD j 0 = t.getD j 0
theorem Eq8.at_ {r t : List Int} (h : Eq8 r t) {a : Int} (ha : okIn 8 a = true) : rg r a = rg t a := by
  rw [okIn_iff] at ha
  exact h.2.2 a.toNat (by omega)
theorem Eq8.set {r t : List Int} (h : Eq8 r t) (a v : Int) : Eq8 (rset r a v) (rset t a v) := by
  refine ⟨by rw [rset_len]; exact h.1, by rw [rset_len]; exact h.2.1, fun j hj => ?_⟩
  unfold rset
  rw [set_get, set_get, h.1, h.2.1]
  split
  · rfl
  · exact h.2.2 j hj
theorem Eq8.beside {r t : List Int} (h : Eq8 r t) {a : Int} (ha : 8 ≤ a) (v : Int) : Eq8 r (rset t a v) := by
  refine ⟨h.1, by rw [rset_len]; exact h.2.1, fun j hj => ?_⟩
  unfold rset
  rw [set_get, if_neg (by omega)]
  exact h.2.2 j hj
theorem rg_set_same {r : List Int} {a : Int} (h0 : 0 ≤ a) (h1 : a.toNat < r.length) (v : Int) : rg (rset r a v) a = v := by
  unfold rg rset
  rw [set_get, if_pos ⟨rfl, h1⟩]
theorem plain_eq8 {p : LProg} {i : LIns} {r t : List Int} (hok : insOk p 8 i = true) (h : Eq8 r t) (hw : isWord i = false) (h7 : i.op ≠ 7) (h8 : i.op ≠ 8) (h9 : i.op ≠ 9) : Eq8 (plainR r i) (plainR t i) := by
  obtain ⟨g1, g2, g10, g3, g5, g8, g9, g11, go, g7, gop⟩ := ins_regs hok
  obtain ⟨w3, w4, w5, w6, -, -⟩ := not_word hw
  by_cases e12 : i.op = 12
  · unfold plainR
    rw [if_neg (by omega), if_neg (by omega), if_neg (by omega), if_neg (by omega), if_pos e12, if_neg (by omega), if_neg (by omega), if_neg (by omega), if_neg (by omega), if_pos e12]
    exact h
  rw [plainR_set r i e12, plainR_set t i e12]
  have hv : plainV r i = plainV t i := by
    unfold plainV
    by_cases e1 : i.op = 1
    · rw [if_pos e1, if_pos e1]
    rw [if_neg e1, if_neg e1]
    by_cases e2 : i.op = 2
    · rw [if_pos e2, if_pos e2, h.at_ (g2 e2).2]
    rw [if_neg e2, if_neg e2]
    by_cases e10 : i.op = 10
    · rw [if_pos e10, if_pos e10, h.at_ (g10 e10).2]
    rw [if_neg e10, if_neg e10]
    by_cases e11 : i.op = 11
    · rw [if_pos e11, if_pos e11, h.at_ (g11 e11).1]
    rw [if_neg e11, if_neg e11]
    have := go e1 e2 e10 w3 w4 w5 w6 h7 h8 h9 e11 e12
    rw [h.at_ this.2.1, h.at_ this.2.2.1]
  rw [hv]
  exact h.set _ _

/-- the hardened program's run, and the program's own -/
structure RelH (p : LProg) (T : Tab) (m n : Mach) : Prop where
  fm : m.fin = 0
  fn : n.fin = 0
  on : ∃ s, On p T m s
  regs : Eq8 m.regs n.regs
  words : n.words = m.words
  at_ : n.at_ = placeH p m.at_
theorem runM_one {h : LProg} {n : Mach} {x : LIns} (hn : n.fin = 0) (hx : h.code[n.at_]? = some x) (k : Nat) : runM h (k + 1) n = runM h k (stepM h x n) := by
  rw [runM, if_neg (by simp [hn]), hx]
theorem stepM_plain {h : LProg} {x : LIns} {n : Mach} (hw : isWord x = false) (h7 : x.op ≠ 7) (h8 : x.op ≠ 8) (h9 : x.op ≠ 9) : (stepM h x n).fin = n.fin ∧ (stepM h x n).regs = plainR n.regs x ∧ (stepM h x n).words = n.words ∧ (stepM h x n).at_ = n.at_ + 1 := by
  obtain ⟨w3, w4, w5, w6, hpt, htk⟩ := not_word hw
  simp [stepM, h7, h8, h9, hpt, htk]
theorem stepM_word {h : LProg} {x : LIns} {n : Mach} (hw : isWord x = true) (hin : insideB h x (idxOf n.regs x) = true) :
    (stepM h x n).fin = n.fin ∧ (stepM h x n).at_ = n.at_ + 1 ∧ (isPut x = true → (stepM h x n).regs = n.regs ∧ (stepM h x n).words = n.words.set (baseOf h x.c.toNat + (idxOf n.regs x).toNat) (rg n.regs x.a)) ∧
      (isPut x = false → (stepM h x n).words = n.words ∧ (stepM h x n).regs = rset n.regs x.a (n.words.getD (baseOf h x.c.toNat + (idxOf n.regs x).toNat) 0)) := by
  have hop := word_ops hw
  have hpt : (isPut x || isTake x) = true := hw
  have h7 : ¬ x.op = 7 := by omega
  have h8 : ¬ x.op = 8 := by omega
  have h9 : ¬ x.op = 9 := by omega
  cases hput : isPut x
  · have ht : isTake x = true := by simpa [hput] using hpt
    simp [stepM, h7, h8, h9, hput, ht, hin]
  · simp [stepM, h7, h8, h9, hput, hin]
/-- one instruction that both do, of registers or of a word -/
theorem both_step {p h : LProg} (hr : h.regs = p.regs) {i : LIns} {m n : Mach} (hok : insOk p 8 i = true) (hE : Eq8 m.regs n.regs) (hw : n.words = m.words) (h7 : i.op ≠ 7) (h8 : i.op ≠ 8) (h9 : i.op ≠ 9)
    (hin : isWord i = true → insideB p i (idxOf m.regs i) = true) : (stepM h i n).fin = n.fin ∧ (stepM h i n).at_ = n.at_ + 1 ∧ Eq8 (stepM p i m).regs (stepM h i n).regs ∧ (stepM h i n).words = (stepM p i m).words ∧ (stepM p i m).at_ = m.at_ + 1 ∧ (stepM p i m).fin = m.fin := by
  obtain ⟨g1, g2, g10, g3, g5, g8, g9, g11, go, g7, gop⟩ := ins_regs hok
  cases hwd : isWord i
  · obtain ⟨a1, a2, a3, a4⟩ := stepM_plain (h := p) (n := m) hwd h7 h8 h9
    obtain ⟨b1, b2, b3, b4⟩ := stepM_plain (h := h) (n := n) hwd h7 h8 h9
    rw [a2, a3, b2, b3]
    exact ⟨b1, b4, plain_eq8 hok hE hwd h7 h8 h9, hw, a4, a1⟩
  · have hi := hin hwd
    have eidx : idxOf n.regs i = idxOf m.regs i := by
      unfold idxOf
      by_cases e : i.op = 3 ∨ i.op = 4
      · rw [if_neg (by omega), if_neg (by omega), hE.at_ (g3 e).2]
      · have := word_ops hwd
        rw [if_pos (by omega), if_pos (by omega)]
    have hb : baseOf h i.c.toNat = baseOf p i.c.toNat := by unfold baseOf; rw [hr]
    have hi2 : insideB h i (idxOf n.regs i) = true := by
      rw [eidx]
      have : insideB h i (idxOf m.regs i) = insideB p i (idxOf m.regs i) := by unfold insideB regOf; rw [hr]
      rw [this]; exact hi
    obtain ⟨a1, a2, a3, a4⟩ := stepM_word (h := p) (n := m) hwd hi
    obtain ⟨b1, b2, b3, b4⟩ := stepM_word (h := h) (n := n) hwd hi2
    have hop := word_ops hwd
    cases hput : isPut i
    · obtain ⟨c1, c2⟩ := a4 hput
      obtain ⟨d1, d2⟩ := b4 hput
      rw [c1, c2, d1, d2, hb, eidx, hw]
      exact ⟨b1, b2, hE.set _ _, rfl, a2, a1⟩
    · obtain ⟨c1, c2⟩ := a3 hput
      obtain ⟨d1, d2⟩ := b3 hput
      have ha : rg m.regs i.a = rg n.regs i.a := by
        refine hE.at_ ?_
        have hop4 : i.op = 4 ∨ i.op = 6 := by simpa [isPut] using hput
        rcases hop4 with o | o
        · exact (g3 (.inr o)).1
        · exact g5 (.inr o)
      rw [c1, c2, d1, d2, hb, eidx, hw, ha]
      exact ⟨b1, b2, hE, rfl, a2, a1⟩
theorem stepM_halt {h : LProg} {x : LIns} {n : Mach} (h9 : x.op = 9) : (stepM h x n).fin = 1 ∧ (stepM h x n).value = rg n.regs x.a ∧ (stepM h x n).words = n.words := by
  simp [stepM, h9]
theorem stepM_jump {h : LProg} {x : LIns} {n : Mach} (h7 : x.op = 7) : (stepM h x n).fin = n.fin ∧ (stepM h x n).regs = n.regs ∧ (stepM h x n).words = n.words ∧ (stepM h x n).at_ = x.n.toNat := by
  simp [stepM, h7]
theorem stepM_if {h : LProg} {x : LIns} {n : Mach} (h8 : x.op = 8) : (stepM h x n).fin = n.fin ∧ (stepM h x n).regs = n.regs ∧ (stepM h x n).words = n.words ∧ (stepM h x n).at_ = if nholds x.c (rg n.regs x.a) (rg n.regs x.b) then x.n.toNat else n.at_ + 1 := by
  simp [stepM, h8]
theorem hard_simu {p : LProg} {T : Tab} (S : Sound p T) : Simu p (hardP p) 3 (RelH p T) := by
  refine ⟨fun m n h => ⟨h.fm, h.fn⟩, fun m n h => ?_, fun m n i h hi => ?_⟩
  · obtain ⟨s, hs⟩ := h.on
    exact ⟨_, List.getElem?_eq_getElem (tg_lt S.post.tok hs.tg)⟩
  obtain ⟨s, hs⟩ := h.on
  obtain ⟨hok, hn⟩ := S.ins hi
  obtain ⟨g1, g2, g10, g3, g5, g8, g9, g11, go, g7, gop⟩ := ins_regs hok
  by_cases h9 : i.op = 9
  · obtain ⟨a1, a2⟩ := hard_one hi (by omega)
    rw [reloc_other (by omega)] at a1
    refine ⟨1, by omega, fun h0 => ?_, fun _ => ?_⟩
    · rw [(stepM_halt h9).1] at h0; cases h0
    · rw [runM_one h.fn (by rw [h.at_]; exact a1)]
      obtain ⟨b1, b2, b3⟩ := stepM_halt (h := p) (n := m) h9
      obtain ⟨c1, c2, c3⟩ := stepM_halt (h := hardP p) (n := n) h9
      simp only [runM]
      rw [b1, b2, b3, c1, c2, c3, h.words, h.regs.at_ (g9 h9)]
      exact ⟨rfl, rfl, rfl⟩
  obtain ⟨hin, hfin, s', hs'⟩ := on_step S hs hi h9
  have hz : (stepM p i m).fin = 0 := by rw [hfin]; exact h.fm
  refine (fun ⟨j, hj, hR⟩ => ⟨j, hj, fun _ => hR, fun hne => absurd hz hne⟩ : (∃ j, j ≤ 3 ∧ RelH p T (stepM p i m) (runM (hardP p) j n)) → _) ?_
  by_cases h7 : i.op = 7
  · obtain ⟨a1, a2⟩ := hard_one hi (by omega)
    refine ⟨1, by omega, ?_⟩
    rw [runM_one h.fn (by rw [h.at_]; exact a1)]
    have er : reloc (placeH p) i = { i with n := (placeH p i.n.toNat : Nat) } := by unfold reloc; rw [if_pos (.inl h7)]
    obtain ⟨b1, b2, b3, b4⟩ := stepM_jump (h := p) (n := m) h7
    obtain ⟨c1, c2, c3, c4⟩ := stepM_jump (h := hardP p) (n := n) (x := reloc (placeH p) i) (by rw [er]; exact h7)
    simp only [runM]
    refine ⟨hz, by rw [c1]; exact h.fn, ⟨s', hs'⟩, by rw [b2, c2]; exact h.regs, by rw [b3, c3]; exact h.words, ?_⟩
    rw [b4, c4, er]
    simp
  by_cases h8 : i.op = 8
  · obtain ⟨a1, a2⟩ := hard_one hi (by omega)
    refine ⟨1, by omega, ?_⟩
    rw [runM_one h.fn (by rw [h.at_]; exact a1)]
    have er : reloc (placeH p) i = { i with n := (placeH p i.n.toNat : Nat) } := by unfold reloc; rw [if_pos (.inr h8)]
    obtain ⟨b1, b2, b3, b4⟩ := stepM_if (h := p) (n := m) h8
    obtain ⟨c1, c2, c3, c4⟩ := stepM_if (h := hardP p) (n := n) (x := reloc (placeH p) i) (by rw [er]; exact h8)
    simp only [runM]
    refine ⟨hz, by rw [c1]; exact h.fn, ⟨s', hs'⟩, by rw [b2, c2]; exact h.regs, by rw [b3, c3]; exact h.words, ?_⟩
    rw [b4, c4, er]
    simp only
    rw [h.regs.at_ (g8 h8).1, h.regs.at_ (g8 h8).2.1]
    split
    · simp
    · rw [h.at_]; exact a2.symm
  by_cases e3 : i.op = 3 ∨ i.op = 4
  · obtain ⟨a1, a2, a3, a4⟩ := hard_three hi e3
    have hw : isWord i = true := by simp only [isWord, isPut, isTake, Bool.or_eq_true, decide_eq_true_eq]; omega
    have hin' := hin hw
    have hidx : idxOf m.regs i = wrap64 (rg m.regs i.b + i.n) := by unfold idxOf; rw [if_neg (by omega)]
    have hb := h.regs.at_ (g3 e3).2
    have hx : 0 ≤ idxOf m.regs i ∧ idxOf m.regs i < ((wordsOf (regOf p i) : Nat) : Int) := by
      simpa [insideB] using hin'
    -- the three instructions
    obtain ⟨b1, b2, b3, b4⟩ := stepM_plain (h := hardP p) (n := n) (x := ⟨10, 8, i.b, 0, i.n⟩) rfl (by simp) (by simp) (by simp)
    have f1 := b1.trans h.fn
    generalize hn1 : stepM (hardP p) ⟨10, 8, i.b, 0, i.n⟩ n = n1 at *
    have r1 : n1.regs = rset n.regs 8 (idxOf m.regs i) := by
      rw [b2]
      unfold plainR
      simp only []
      rw [if_neg (by omega), if_neg (by omega), if_pos trivial, hidx, hb]
    have e1 : Eq8 m.regs n1.regs := by rw [r1]; exact h.regs.beside (by omega) _
    have v1 : rg n1.regs 8 = idxOf m.regs i := by
      rw [r1]
      refine rg_set_same (by omega) ?_ _
      rw [h.regs.2.1]; decide
    obtain ⟨c1, c2, c3, c4⟩ := stepM_plain (h := hardP p) (n := n1) (x := ⟨11, 8, 0, 0, ((wordsOf (regOf p i) : Nat) : Int)⟩) rfl (by simp) (by simp) (by simp)
    have f2 := c1.trans f1
    generalize hn2 : stepM (hardP p) ⟨11, 8, 0, 0, ((wordsOf (regOf p i) : Nat) : Int)⟩ n1 = n2 at *
    have r2 : n2.regs = n1.regs := by
      rw [c2]
      unfold plainR
      simp only []
      rw [if_neg (by omega), if_neg (by omega), if_neg (by omega), if_pos trivial, v1, if_neg (by omega)]
    have k1 : n1.at_ = placeH p m.at_ + 1 := by rw [b4, h.at_]
    have k2 : n2.at_ = placeH p m.at_ + 2 := by rw [c4, k1]
    have hregs := (may_parts S.may).1
    have hl := words_le (regOf p i) (regsOk_log hregs (regOf p i) (by unfold regOf; simp [(region_there hok hw).2])).2
    have i2 : idxOf n2.regs ⟨i.op, i.a, 8, i.c, 0⟩ = idxOf m.regs i := by
      have : idxOf n2.regs ⟨i.op, i.a, 8, i.c, 0⟩ = wrap64 (rg n2.regs 8 + 0) := by
        unfold idxOf
        simp only
        rw [if_neg (by omega)]
      rw [this, r2, v1, Int.add_zero]
      exact wrap64_small hx.1 (by omega)
    have hwx : isWord ⟨i.op, i.a, 8, i.c, 0⟩ = true := hw
    have hpx : isPut ⟨i.op, i.a, 8, i.c, 0⟩ = isPut i := rfl
    have hreg2 : insideB (hardP p) ⟨i.op, i.a, 8, i.c, 0⟩ (idxOf n2.regs ⟨i.op, i.a, 8, i.c, 0⟩) = true := by
      rw [i2]; exact hin'
    obtain ⟨d1, d2, d3, d4⟩ := stepM_word (h := hardP p) (n := n2) hwx hreg2
    obtain ⟨q1, q2, q3, q4⟩ := stepM_word (h := p) (n := m) hw hin'
    refine ⟨3, by omega, ?_⟩
    rw [runM_one h.fn (by rw [h.at_]; exact a1), hn1, runM_one f1 (by rw [k1]; exact a2), hn2, runM_one f2 (by rw [k2]; exact a3)]
    simp only [runM]
    have hwd : n2.words = m.words := by rw [c3, b3]; exact h.words
    have e2 : Eq8 m.regs n2.regs := by rw [r2]; exact e1
    have hbase : baseOf (hardP p) i.c.toNat = baseOf p i.c.toNat := rfl
    refine ⟨hz, by rw [d1]; exact f2, ⟨s', hs'⟩, ?_, ?_, by rw [d2, k2, q2, a4]⟩
    · cases hput : isPut i
      · rw [(d4 (hpx.trans hput)).2, (q4 hput).2, i2, hwd]
        exact e2.set _ _
      · rw [(d3 (hpx.trans hput)).1, (q3 hput).1]; exact e2
    · cases hput : isPut i
      · rw [(d4 (hpx.trans hput)).1, (q4 hput).1]; exact hwd
      · rw [(d3 (hpx.trans hput)).2, (q3 hput).2, i2, hwd]
        simp only
        rw [e2.at_ (g3 e3).1]
        rfl
  · obtain ⟨a1, a2⟩ := hard_one hi e3
    rw [reloc_other (by omega)] at a1
    refine ⟨1, by omega, ?_⟩
    rw [runM_one h.fn (by rw [h.at_]; exact a1)]
    obtain ⟨b1, b2, b3, b4, b5, b6⟩ := both_step (p := p) (h := hardP p) rfl hok h.regs h.words h7 h8 h9 hin
    simp only [runM]
    exact ⟨hz, by rw [b1]; exact h.fn, ⟨s', hs'⟩, b3, b4, by rw [b2, b5, h.at_, a2]⟩
/-- HARDENED, IT DOES THE SAME -/
theorem hard_same {p : LProg} {T : Tab} (S : Sound p T) {ws : List Int} (hl : ws.length = total p) (hw : ∀ x ∈ ws, R64 x) (k : Nat) (he : (runM p k (start ws)).fin ≠ 0) :
    (runM (hardP p) (4 * k + 4) (start ws)).fin = (runM p k (start ws)).fin ∧ (runM (hardP p) (4 * k + 4) (start ws)).value = (runM p k (start ws)).value ∧ (runM (hardP p) (4 * k + 4) (start ws)).words = (runM p k (start ws)).words :=
  simu_same (hard_simu S) (m := start ws) (n := start ws) ⟨rfl, rfl, on_start S hl hw, ⟨by simp [start], by simp [start], fun _ _ => rfl⟩, rfl, by simp [start, placeH, plc_zero]⟩ k _ (by omega) he
end Go.Proofs.Yteiknefajlocoaa
