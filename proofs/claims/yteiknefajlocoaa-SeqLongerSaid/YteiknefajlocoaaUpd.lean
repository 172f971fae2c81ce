/- One old cell turned, all else as it was: no program in sight. -/
import Derived.Test.YteiknefajlocoaaMem
namespace Go.Proofs.Yteiknefajlocoaa
open Go.RowKit

theorem heap_setCell_same (w : World) (p : Addr) (v v' : Value) (b : Nat) : ((w.setCell p v).setCell p v').heap[b]? = (w.setCell p v').heap[b]? := by
  simp only [World.setCell, Array.getElem?_modify]
  by_cases h : p.block = b
  · simp only [h, if_true]
    cases w.heap[b]? with
    | none => rfl
    | some o => cases o <;> simp <;> split <;> simp
  · simp only [h, if_false]
theorem setCell_size (w : World) (p : Addr) (v : Value) : (w.setCell p v).heap.size = w.heap.size := by simp [World.setCell]
theorem setCell_congr {w w' : World} (p : Addr) (v : Value) (b : Nat) (h : w'.heap[b]? = w.heap[b]?) : (w'.setCell p v).heap[b]? = (w.setCell p v).heap[b]? := by
  simp only [World.setCell, Array.getElem?_modify, h]
/-- one old cell turned twice -/
theorem upd_trans {w w1 w2 : World} {p : Addr} {v v' : Value} (h : Ext (w.setCell p v) w1) (k : Ext (w1.setCell p v') w2) : Ext (w.setCell p v') w2 := by
  have hs : w.heap.size ≤ w1.heap.size := by have := h.size; rwa [setCell_size] at this
  refine ⟨k.os.trans (h.os), k.tape.trans h.tape, k.output.trans h.output, ?_, fun b hb => ?_⟩
  · have := k.size
    rw [setCell_size] at this ⊢
    omega
  · rw [setCell_size] at hb
    rw [k.block b (by rw [setCell_size]; omega), setCell_congr p v' b (h.block b (by rw [setCell_size]; exact hb)), heap_setCell_same]
/-- what is there already is put again -/
theorem upd_refl {w w' : World} {p : Addr} {v : Value} (hc : w.cell? p = some v) (h : Ext w w') : Ext (w.setCell p v) w' := by
  refine ⟨h.os, h.tape, h.output, by rw [setCell_size]; exact h.size, fun b hb => ?_⟩
  rw [setCell_size] at hb
  rw [h.block b hb]
  simp only [World.setCell, Array.getElem?_modify]
  by_cases e : p.block = b
  · subst e
    simp only [if_true]
    unfold World.cell? at hc
    cases hx : w.heap[p.block]? with
    | none => rfl
    | some o =>
      rw [hx] at hc
      cases o with
      | cells c t fz =>
        simp only at hc
        by_cases hsp : p.spot.isSome = true
        · simp [hsp] at hc
        · simp only [hsp, Bool.false_eq_true, if_false] at hc
          have : c.setIfInBounds p.off v = c := by
            apply Array.ext_getElem?
            intro j
            by_cases hj : p.off = j
            · subst hj
              rw [Array.getElem?_setIfInBounds_self_of_lt (Array.getElem?_eq_some_iff.1 hc).1, hc]
            · rw [Array.getElem?_setIfInBounds_ne hj]
          simp [hsp, this]
      | _ => rfl
  · simp [e]
/-- new blocks ahead of it -/
theorem upd_after {w w1 w2 : World} {p : Addr} {v : Value} (h : Ext w w1) (k : Ext (w1.setCell p v) w2) : Ext (w.setCell p v) w2 := by
  refine ⟨k.os.trans h.os, k.tape.trans h.tape, k.output.trans h.output, ?_, fun b hb => ?_⟩
  · have := k.size
    have := h.size
    rw [setCell_size] at *
    omega
  · rw [setCell_size] at hb
    rw [k.block b (by rw [setCell_size]; exact h.lt hb), setCell_congr p v b (h.block b hb)]
theorem upd_size {w w' : World} {p : Addr} {v : Value} (h : Ext (w.setCell p v) w') : w.heap.size ≤ w'.heap.size := by have := h.size; rwa [setCell_size] at this
/-- the cell that was turned -/
theorem upd_same {w w' : World} {p : Addr} {v u : Value} (h : Ext (w.setCell p v) w') (hc : w.cell? p = some u ∧ w.frozen? p = false) : w'.cell? p = some v ∧ w'.frozen? p = false := by
  have := set_same (u := v) hc
  exact ⟨h.kept this.1, (h.frozen (by rw [setCell_size]; exact block_lt hc.1)).trans this.2⟩
/-- another cell -/
theorem upd_kept {w w' : World} {p q : Addr} {v u : Value} (h : Ext (w.setCell p v) w') (hne : p ≠ q) (hc : w.cell? q = some u ∧ w.frozen? q = false) : w'.cell? q = some u ∧ w'.frozen? q = false := by
  have := kept_set (u := v) hne hc
  exact ⟨h.kept this.1, (h.frozen (by rw [setCell_size]; exact block_lt hc.1)).trans this.2⟩
theorem upd_cell {w w' : World} {p q : Addr} {v u : Value} (h : Ext (w.setCell p v) w') (hne : p ≠ q) (hc : w.cell? q = some u) : w'.cell? q = some u :=
  h.kept ((World.cell?_setCell_other w p q v hne).trans hc)
/-- the cell being new, nothing old has turned -/
theorem upd_new {w0 w w' : World} {p : Addr} {v : Value} (h : Ext (w.setCell p v) w') (h0 : Ext w0 w) (hp : w0.heap.size ≤ p.block) : Ext w0 w' := (h0.setCell hp v).trans h
end Go.Proofs.Yteiknefajlocoaa
