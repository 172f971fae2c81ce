/- Laid together from: QuietW. -/
import Derived.Test.YteiknefajlocoaaLoadQuietB34
import Derived.Test.YteiknefajlocoaaLoadQuietB32
import Derived.Test.YteiknefajlocoaaLoadQuietB44

namespace Go.Proofs.Yteiknefajlocoaa
open Go.ChangeShapes Go.WideShapes Go.ChangeAt Go.RowKit
set_option linter.unusedVariables false
set_option linter.unusedSimpArgs false
theorem Qdw {p : Q01} (hh : Q3m p = true) (hf : ∀ i ∈ p.code, i.fits) : ∀ (k : Nat) (S : Spc), SOk p S → SOk p (runS p k S)
 | 0, S, h => h
 | k + 1, S, h => by
  obtain ⟨-, -, -, hall⟩ := Q5g hh
  rw [runS]
  split
  ·exact h
  ·have hu : SOk p (upS p S) := by
    unfold upS
    split
    ·rename_i hc
     exact h.up hc.1
    ·exact h
   split
   ·exact ⟨hu.mid.fault 2, hu.seen⟩
   ·rename_i i hi
    have hlt := (List.getElem?_eq_some_iff.1 hi).1
    have hm := List.mem_of_getElem? hi
    exact Qdw hh hf k _ (hu.step hlt (hall i hm) (hf i hm))
theorem Qe1 {p : Q01} (hh : Q3m p = true) (hf : ∀ i ∈ p.code, i.fits) {ws : List Int} (hl : ws.length = Q0g p) (h64 : Q1q ws) (script : List Int) (k : Nat) : (endS (runS p k (Q16 ws script))).pl.words.length = Q0g p :=
 (Qha (Qdw hh hf k _ (Qdv hl h64))).1
theorem Qhb (s : Spc) : (endS s).seen = s.seen ∧ (endS s).fin = s.fin ∧ (endS s).value = s.value ∧ (endS s).steps = s.steps := by
 unfold endS
 split <;> exact ⟨rfl, rfl, rfl, rfl⟩
theorem Qml {p : Q01} {s t : Spc} (h : s.seen = t.seen ∧ s.fin = t.fin ∧ s.value = t.value ∧ s.steps = t.steps ∧ Pub p (endS s).pl.words (endS t).pl.words) :
  (endS s).seen = (endS t).seen ∧ (endS s).fin = (endS t).fin ∧ (endS s).value = (endS t).value ∧ (endS s).steps = (endS t).steps ∧ Pub p (endS s).pl.words (endS t).pl.words := by
 obtain ⟨a1, a2, a3, a4⟩ := Qhb s
 obtain ⟨b1, b2, b3, b4⟩ := Qhb t
 obtain ⟨h1, h2, h3, h4, h5⟩ := h
 exact ⟨by rw [a1, b1, h1], by rw [a2, b2, h2], by rw [a3, b3, h3], by rw [a4, b4, h4], h5⟩
theorem Qev {w : World} {v : Value} {p : Q01} (h : Q07 w v p) : ∀ i ∈ p.code, i.fits := by
 obtain ⟨v1, v2, -, -, h2⟩ := h
 exact h2.1
theorem Qfo {w : World} {v : Value} {m : List (List Int)} (h : Q4v w v m) : Q1q m.flatten := Qd5 (Qo5 h)
end Go.Proofs.Yteiknefajlocoaa
