/- Laid together from: PubL. -/
import Derived.Test.YteiknefajlocoaaLoadQuietB5
import Derived.Test.YteiknefajlocoaaLoadQuietB13

namespace Go.Proofs.Yteiknefajlocoaa
open Go.RowKit
set_option linter.unusedSimpArgs false
set_option linter.unusedVariables false
def Q50 (p : Q01) (m n : List (List Int)) : Bool := (List.range p.regs.length).all fun i => (p.regs.getD i default).secret || decide (m.getD i default = n.getD i default)
theorem Qgv : ∀ (l : List LReg) (n : Nat), n < (l.map Q0b).sum → ∃ r x, r < l.length ∧ x < Q0b (l.getD r default) ∧ n = ((l.take r).map Q0b).sum + x
 | [], n, h => by simp at h
 | a :: l, n, h => by
  by_cases hn : n < Q0b a
  ·exact ⟨0, n, by simp, by simpa using hn, by simp⟩
  ·simp only [List.map_cons, List.sum_cons] at h
   obtain ⟨r, x, h1, h2, h3⟩ := Qgv l (n - Q0b a) (by omega)
   refine ⟨r + 1, x, by simpa using h1, by simpa using h2, ?_⟩
   simp only [List.take_succ_cons, List.map_cons, List.sum_cons]
   omega
theorem Qet {p : Q01} {a b : List Int} (ha : a.length = Q0g p) (hb : b.length = Q0g p) : Q50 p (Q21 p a) (Q21 p b) = true ↔ Pub p a b := by
 unfold Q50
 simp only [List.all_eq_true, List.mem_range, Bool.or_eq_true, decide_eq_true_eq]
 constructor
 ·intro h n hn
  by_cases hlt : n < Q0g p
  ·obtain ⟨r, x, h1, h2, h3⟩ := Qgv p.regs n hlt
   have h3' : n = Q1k p r + x := h3
   have hs : secW p n = (p.regs.getD r default).secret := by
    unfold secW
    rw [h3]
    exact Q9j p.regs r x h1 h2
   rw [hn] at hs
   rcases h r h1 with h4 | h4
   ·rw [← hs] at h4; cases h4
   ·have e1 := Q9h (p := p) a h1 h2
    have e2 := Q9h (p := p) b h1 h2
    rw [h4, e2] at e1
    rw [h3']
    exact e1.symm
  ·rw [List.getD_eq_getElem?_getD, List.getD_eq_getElem?_getD, List.getElem?_eq_none (by omega), List.getElem?_eq_none (by omega)]
 ·intro h r hr
  cases hsec : (p.regs.getD r default).secret
  ·right
   apply List.ext_getElem (by rw [Q9g ha hr, Q9g hb hr])
   intro x h1 h2
   have hx : x < Q0b (p.regs.getD r default) := by rw [Q9g ha hr] at h1; exact h1
   have e1 := Q9h (p := p) a hr hx
   have e2 := Q9h (p := p) b hr hx
   have hs : secW p (Q1k p r + x) = false := by
    unfold secW
    have := Q9j p.regs r x hr hx
    rw [hsec] at this
    exact this
   have := h _ hs
   rw [← e1, ← e2] at this
   rw [List.getD_eq_getElem?_getD (l := (Q21 p a).getD r default), List.getD_eq_getElem?_getD (l := (Q21 p b).getD r default), List.getElem?_eq_getElem h1, List.getElem?_eq_getElem h2] at this
   exact this
  ·left; rfl
theorem Qms {p : Q01} {m n : List (List Int)} (hm : Q2g p m = true) (hn : Q2g p n = true) : Q50 p m n = true ↔ Pub p m.flatten n.flatten := by
 have := Qet (p := p) (Q78 hm) (Q78 hn)
 rwa [Qdu hm, Qdu hn] at this
theorem Qgy {p : Q01} {ws : List Int} (hr : Q02 p.regs = true) (hl : ws.length = Q0g p) : Q2g p (Q21 p ws) = true := by
 unfold Q2g
 rw [hr, Q7i]
 simp only [decide_true, Bool.and_self, Bool.true_and, List.all_eq_true, List.mem_range, decide_eq_true_eq]
 exact fun i hi => Q9g hl hi
end Go.Proofs.Yteiknefajlocoaa
