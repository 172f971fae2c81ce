/- Laid together from: KnownL, CheckL, CheckQ. -/
import Derived.Test.YtalpnmjaafcpoaaFindTellsB3
import Derived.Test.YtalpnmjaafcpoaaFindTellsB11
import Derived.Test.YtalpnmjaafcpoaaFindTellsB5
import Derived.Test.YtalpnmjaafcpoaaFindTellsB4

namespace Go.Proofs.Ytalpnmjaafcpoaa
open Go.RowKit
end Go.Proofs.Ytalpnmjaafcpoaa

namespace Go.Proofs.Ytalpnmjaafcpoaa
open Go.RowKit
set_option linter.unusedSimpArgs false
set_option linter.unusedVariables false
def Q0v (l : List Int) : Prop := ∀ n : Nat, R64 (l.getD n 0)
theorem Q56 : R64 0 := ⟨by omega, by omega⟩
theorem Q81 (x : Int) : R64 (wrap64 x) := by unfold R64 wrap64; omega
theorem Qik (a b : Int) : R64 (bits .and .i64 a b) ∧ R64 (bits .or .i64 a b) ∧ R64 (bits .xor .i64 a b) := by
 have e : ∀ x : Int, R64 (IntKind.i64.wrap x) := fun x => by rw [Q65]; exact Q81 x
 exact ⟨e _, e _, e _⟩
theorem Qf5 {op a b : Int} (ha : R64 a) : R64 (nop op a b) := by
 have hb := Qik a b
 unfold nop
 repeat' split
 all_goals first | exact Q81 _ | exact hb.1 | exact hb.2.1 | exact hb.2.2 | exact ha | exact Q56
theorem Q0v.set {l : List Int} (h : Q0v l) (k : Nat) {x : Int} (hx : R64 x) : Q0v (l.set k x) := fun n => by
 rw [List.getD_eq_getElem?_getD, List.getElem?_set]
 by_cases e : k = n
 ·subst e
  by_cases h2 : k < l.length
  ·simpa [h2] using hx
  ·simpa [h2] using Q56
 ·rw [if_neg e, ← List.getD_eq_getElem?_getD]; exact h n
theorem Q0l {b n : Int} : okIn b n = true ↔ 0 ≤ n ∧ n < b := by simp [okIn]
theorem Qaq (r : List Int) (i : LIns) (P : List Int → Prop) (h1 : i.op = 1 → P (rset r i.a i.n)) (h2 : i.op = 2 → P (rset r i.a (rg r i.b))) (h10 : i.op = 10 → P (rset r i.a (wrap64 (rg r i.b + i.n))))
  (h11 : i.op = 11 → (rg r i.a < 0 ∨ i.n ≤ rg r i.a → P (rset r i.a 0)) ∧ (0 ≤ rg r i.a ∧ rg r i.a < i.n → P r)) (h12 : i.op = 12 → P r)
  (ho : i.op ≠ 1 → i.op ≠ 2 → i.op ≠ 10 → i.op ≠ 11 → i.op ≠ 12 → P (rset r i.a (nop (i.op - 20) (rg r i.b) (rg r i.c)))) : P (Q0r r i) := by
 unfold Q0r
 by_cases e1 : i.op = 1
 ·rw [if_pos e1]; exact h1 e1
 rw [if_neg e1]
 by_cases e2 : i.op = 2
 ·rw [if_pos e2]; exact h2 e2
 rw [if_neg e2]
 by_cases e10 : i.op = 10
 ·rw [if_pos e10]; exact h10 e10
 rw [if_neg e10]
 by_cases e11 : i.op = 11
 ·rw [if_pos e11]
  split
  ·rename_i h; exact (h11 e11).1 h
  ·rename_i h; exact (h11 e11).2 (by omega)
 rw [if_neg e11]
 by_cases e12 : i.op = 12
 ·rw [if_pos e12]; exact h12 e12
 rw [if_neg e12]
 exact ho e1 e2 e10 e11 e12
theorem Q43 (r : List Int) (a v : Int) : (rset r a v).length = r.length := by simp [rset]
theorem Q0v.rset {r : List Int} (h : Q0v r) (a : Int) {v : Int} (hv : R64 v) : Q0v (rset r a v) := h.set _ hv
theorem Qbt {r : List Int} {i : LIns} (h : Q0v r) (hn : R64 i.n) : Q0v (Q0r r i) :=
 Qaq r i Q0v (fun _ => h.rset _ hn) (fun _ => h.rset _ (h _)) (fun _ => h.rset _ (Q81 _)) (fun _ => ⟨fun _ => h.rset _ Q56, fun _ => h⟩) (fun _ => h) (fun _ _ _ _ _ => h.rset _ (Qf5 (h _)))
theorem Q88 (r : List Int) (i : LIns) : (Q0r r i).length = r.length :=
 Qaq r i (fun r' => r'.length = r.length) (fun _ => Q43 _ _ _) (fun _ => Q43 _ _ _) (fun _ => Q43 _ _ _) (fun _ => ⟨fun _ => Q43 _ _ _, fun _ => rfl⟩) (fun _ => rfl) (fun _ _ _ _ _ => Q43 _ _ _)
theorem Q3d {p : Q01} {R : Int} {i : LIns} (h : Q00 p R i = true) :
  (i.op = 1 → okIn R i.a = true) ∧ (i.op = 2 → okIn R i.a = true ∧ okIn R i.b = true) ∧ (i.op = 10 → okIn R i.a = true ∧ okIn R i.b = true) ∧ (i.op = 3 ∨ i.op = 4 → okIn R i.a = true ∧ okIn R i.b = true) ∧
   (i.op = 5 ∨ i.op = 6 → okIn R i.a = true) ∧ (i.op = 8 → okIn R i.a = true ∧ okIn R i.b = true ∧ 1 ≤ i.c ∧ i.c ≤ 4) ∧ (i.op = 9 → okIn R i.a = true) ∧ (i.op = 11 → okIn R i.a = true ∧ 1 ≤ i.n ∧ i.n ≤ 64) ∧
   (i.op ≠ 1 → i.op ≠ 2 → i.op ≠ 10 → i.op ≠ 3 → i.op ≠ 4 → i.op ≠ 5 → i.op ≠ 6 → i.op ≠ 7 → i.op ≠ 8 → i.op ≠ 9 → i.op ≠ 11 → i.op ≠ 12 → okIn R i.a = true ∧ okIn R i.b = true ∧ okIn R i.c = true ∧ 21 ≤ i.op ∧ i.op ≤ 30) ∧
   (i.op = 7 ∨ i.op = 8 → 0 ≤ i.n ∧ i.n.toNat < p.code.length) ∧ (1 ≤ i.op ∧ i.op ≤ 12 ∨ 21 ≤ i.op ∧ i.op ≤ 30) := by
 simp only [Q00] at h
 by_cases e1 : i.op = 1
 ·simp [e1, okIn] at h ⊢; omega
 by_cases e2 : i.op = 2
 ·simp [e2, okIn] at h ⊢; omega
 by_cases e10 : i.op = 10
 ·simp [e10, okIn] at h ⊢; omega
 by_cases e3 : i.op = 3 ∨ i.op = 4
 ·rcases e3 with e3 | e3 <;> simp [e3, okIn] at h ⊢ <;> omega
 by_cases e5 : i.op = 5 ∨ i.op = 6
 ·rcases e5 with e5 | e5 <;> simp [e5, okIn] at h ⊢ <;> omega
 by_cases e7 : i.op = 7
 ·simp [e7, okIn] at h ⊢; omega
 by_cases e8 : i.op = 8
 ·simp [e8, okIn] at h ⊢; omega
 by_cases e9 : i.op = 9
 ·simp [e9, okIn] at h ⊢; omega
 by_cases e11 : i.op = 11
 ·simp [e11, okIn] at h ⊢; omega
 by_cases e12 : i.op = 12
 ·simp [e12, okIn] at h ⊢
 rw [if_neg e1, if_neg e2, if_neg e10, if_neg e3, if_neg e5, if_neg e7, if_neg e8, if_neg e9, if_neg e11, if_neg e12] at h
 simp [okIn] at h
 simp [okIn]
 omega
theorem Qcx (l : List Int) (x : Int) (n : Nat) : (l ++ [x]).getD n 0 = if n = l.length then x else l.getD n 0 := by
 simp only [List.getD_eq_getElem?_getD, List.getElem?_append]
 by_cases h : n < l.length
 ·rw [if_pos h, if_neg (by omega)]
 ·rw [if_neg h]
  by_cases e : n = l.length
  ·subst e; simp
  ·rw [if_neg e, List.getElem?_eq_none (by simp; omega), List.getElem?_eq_none (by omega)]
theorem Q0v.snoc {l : List Int} (h : Q0v l) {x : Int} (hx : R64 x) : Q0v (l ++ [x]) := fun n => by
 rw [Qcx]
 split
 ·exact hx
 ·exact h n
end Go.Proofs.Ytalpnmjaafcpoaa
