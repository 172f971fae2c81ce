/- Laid together from: Own. -/
import Derived.Test.YtkkekbnhndfhjaaDoorTextAgainB11
import Derived.OwnWalk

namespace Go.Proofs.YtkkekbnhndfhjaaDoor
open Go.RowKit
set_option linter.unusedVariables false
set_option linter.unusedSimpArgs false
def insCells (i : LIns) : List Value := [.int .i64 i.op, .int .i64 i.a, .int .i64 i.b, .int .i64 i.c, .int .i64 i.n]
def regCells (r : LReg) : List Value := [.int .i64 r.log, .bool r.secret]
theorem flat_cell {α : Type} [Inhabited α] (f : α → List Value) (c : Nat) (hf : ∀ x, (f x).length = c) : ∀ (l : List α) (i j : Nat), i < l.length → j < c → (l.flatMap f)[i * c + j]? = (f (l.getD i default))[j]?
  | [], i, j, h, _ => by simp at h
  | x :: l, 0, j, _, hj => by
    rw [List.flatMap_cons, Nat.zero_mul, Nat.zero_add, List.getElem?_append_left (by rw [hf]; exact hj)]
    rfl
  | x :: l, i + 1, j, h, hj => by
    rw [List.flatMap_cons, List.getElem?_append_right (by rw [hf, Nat.succ_mul]; omega), hf, show (i + 1) * c + j - c = i * c + j by rw [Nat.succ_mul]; omega]
    simp only [List.getD_cons_succ]
    exact flat_cell f c hf l i j (by simpa using h) hj
theorem own_rows {α : Type} [Inhabited α] {w : World} {base : Nat} {e : TypeId} {c : Nat} {v : Value} {l : List α} {f : α → List Value} {g : α → Nat → Value} (hc : 0 < c) (hf : ∀ x, (f x).length = c) (hg : ∀ x j, j < c → (f x)[j]? = some (g x j))
    (h : w.ownsRow base e c v l.length (l.flatMap f)) : ∃ oa cap b, v = .slice oa l.length cap ∧ l.length ≤ cap ∧ cap ≤ maxLen ∧ Rows w oa b 0 l.length c (fun i => g (l.getD i default)) ∧ (l ≠ [] → base ≤ b) := by
  have h' := h
  obtain ⟨h0, ⟨rfl, hn⟩ | ⟨k, cap, cur, rfl, hb, hh, h1, h2, h3, h4⟩⟩ := h
  · exact ⟨none, 0, 0, by rw [hn], by omega, by decide, ⟨fun hh => by omega, fun i j hi hj => by omega⟩, fun hne => absurd (List.length_eq_zero_iff.1 hn) hne⟩
  · refine ⟨_, cap, k, rfl, h1, h2, ⟨fun _ => rfl, fun i j hi hj => ?_⟩, fun _ => hb⟩
    have hlt : i * c + j < l.length * c := by
      have : (i + 1) * c ≤ l.length * c := Nat.mul_le_mul_right c hi
      rw [Nat.succ_mul] at this
      omega
    rw [Nat.zero_add, World.ownsRow.cellAt h' (i * c + j) hlt, flat_cell f c hf l i j hi hj, hg _ _ hj]
theorem insCells_get (i : LIns) (j : Nat) (hj : j < 5) : (insCells i)[j]? = some (insCell i j) := by
  rcases (show j = 0 ∨ j = 1 ∨ j = 2 ∨ j = 3 ∨ j = 4 by omega) with rfl | rfl | rfl | rfl | rfl <;> rfl
theorem regCells_get (r : LReg) (j : Nat) (hj : j < 2) : (regCells r)[j]? = some (regCell r j) := by
  rcases (show j = 0 ∨ j = 1 by omega) with rfl | rfl <;> rfl
theorem code_own {w : World} {base : Nat} {e : TypeId} {v : Value} {l : List LIns} (h : w.ownsRow base e 5 v l.length (l.flatMap insCells)) (hl : ∀ i ∈ l, i.fits) : CodeAt w v l := by
  obtain ⟨oa, cap, b, h1, h2, h3, h4, -⟩ := own_rows (c := 5) (f := insCells) (g := insCell) (by omega) (fun _ => rfl) insCells_get h
  exact ⟨hl, oa, cap, b, 0, h1, h2, h3, h4⟩
theorem regs_own {w : World} {base : Nat} {e : TypeId} {v : Value} {l : List LReg} (h : w.ownsRow base e 2 v l.length (l.flatMap regCells)) (hl : ∀ r ∈ l, R64 r.log) : RegsAt w v l := by
  obtain ⟨oa, cap, b, h1, h2, h3, h4, -⟩ := own_rows (c := 2) (f := regCells) (g := regCell) (by omega) (fun _ => rfl) regCells_get h
  exact ⟨hl, oa, cap, b, 0, h1, h2, h3, h4⟩
end Go.Proofs.YtkkekbnhndfhjaaDoor
