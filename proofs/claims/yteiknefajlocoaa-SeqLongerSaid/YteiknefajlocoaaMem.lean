/- Small laws of memory: what is kept; blocks laid just now. No program in sight. -/
import Derived.Test.YteiknefajlocoaaBase
namespace Go.Proofs.Yteiknefajlocoaa
open Go.ChangeShapes Go.WideShapes Go.ChangeAt Go.RowKit

theorem kept2 {w w' : World} {p : Addr} {v : Value} (hx : Ext w w') (h : w.cell? p = some v ∧ w.frozen? p = false) : w'.cell? p = some v ∧ w'.frozen? p = false :=
  ⟨hx.kept h.1, (hx.frozen (block_lt h.1)).trans h.2⟩
theorem set_same {w : World} {p : Addr} {v u : Value} (h : w.cell? p = some v ∧ w.frozen? p = false) : (w.setCell p u).cell? p = some u ∧ (w.setCell p u).frozen? p = false :=
  ⟨World.cell?_setCell_same _ _ _ h.1, (World.frozen?_setCell w p p u).trans h.2⟩
theorem one_new (w : World) (T : TypeId) (a0 a1 : Value) : ((w.alloc (.cells #[a0, a1] T)).cell? ⟨w.heap.size, 0, none⟩ = some a0 ∧ (w.alloc (.cells #[a0, a1] T)).frozen? ⟨w.heap.size, 0, none⟩ = false) ∧
    ((w.alloc (.cells #[a0, a1] T)).cell? ⟨w.heap.size, 1, none⟩ = some a1 ∧ (w.alloc (.cells #[a0, a1] T)).frozen? ⟨w.heap.size, 1, none⟩ = false) := by
  have h0 := Blk.new w T #[a0, a1]
  exact ⟨⟨by rw [h0.cell]; rfl, h0.frozen 0⟩, ⟨by rw [h0.cell]; rfl, h0.frozen 1⟩⟩
theorem new2 (w : World) (T : TypeId) (v0 v1 : Value) : ∃ W g, w.heap.size = g ∧ w.alloc (.cells #[v0, v1] T) = W ∧ Ext w W ∧ (W.cell? ⟨g, 0, none⟩ = some v0 ∧ W.frozen? ⟨g, 0, none⟩ = false) ∧ (W.cell? ⟨g, 1, none⟩ = some v1 ∧ W.frozen? ⟨g, 1, none⟩ = false) :=
  ⟨_, _, rfl, rfl, (Ext.refl _).alloc _, (one_new w T v0 v1).1, (one_new w T v0 v1).2⟩
theorem two_new (w : World) (T : TypeId) (a0 a1 b0 b1 : Value) : ∃ W g, w.heap.size = g ∧ (w.alloc (.cells #[a0, a1] T)).alloc (.cells #[b0, b1] T) = W ∧ Ext w W ∧
    (W.cell? ⟨g, 0, none⟩ = some a0 ∧ W.frozen? ⟨g, 0, none⟩ = false) ∧ (W.cell? ⟨g, 1, none⟩ = some a1 ∧ W.frozen? ⟨g, 1, none⟩ = false) ∧
    (W.cell? ⟨g + 1, 0, none⟩ = some b0 ∧ W.frozen? ⟨g + 1, 0, none⟩ = false) ∧ (W.cell? ⟨g + 1, 1, none⟩ = some b1 ∧ W.frozen? ⟨g + 1, 1, none⟩ = false) := by
  refine ⟨_, _, rfl, rfl, ((Ext.refl _).alloc _).alloc _, ?_⟩
  have h0 := (Blk.new w T #[a0, a1]).alloc (.cells #[b0, b1] T)
  have h1 := Blk.new (w.alloc (.cells #[a0, a1] T)) T #[b0, b1]
  simp only [World.size_alloc] at h1
  exact ⟨⟨by rw [h0.cell]; rfl, h0.frozen 0⟩, ⟨by rw [h0.cell]; rfl, h0.frozen 1⟩, ⟨by rw [h1.cell]; rfl, h1.frozen 0⟩, ⟨by rw [h1.cell]; rfl, h1.frozen 1⟩⟩
theorem some_alloc {W : World} {p : Addr} {o : Obj} (h : (W.cell? p).isSome = true) : ((W.alloc o).cell? p).isSome = true := by
  obtain ⟨v, hv⟩ := Option.isSome_iff_exists.1 h
  rw [((Ext.refl W).alloc o).kept hv]; rfl
theorem blocks2 (w : World) (A B : Array Value) (S T : TypeId) : ∃ W g, w.heap.size = g ∧ (w.alloc (.cells A S)).alloc (.cells B T) = W ∧ Ext w W ∧ Blk W g S A ∧ Blk W (g + 1) T B := by
  have h0 := (Blk.new w S A).alloc (.cells B T)
  have h1 := Blk.new (w.alloc (.cells A S)) T B
  simp only [World.size_alloc] at h1
  exact ⟨_, _, rfl, rfl, ((Ext.refl w).alloc _).alloc _, h0, h1⟩
theorem blocks3 (w : World) (A B C : Array Value) (S T U : TypeId) : ∃ W g, w.heap.size = g ∧ ((w.alloc (.cells A S)).alloc (.cells B T)).alloc (.cells C U) = W ∧ Ext w W ∧ Blk W g S A ∧ Blk W (g + 1) T B ∧ Blk W (g + 1 + 1) U C := by
  have h0 := ((Blk.new w S A).alloc (.cells B T)).alloc (.cells C U)
  have h1 := (Blk.new (w.alloc (.cells A S)) T B).alloc (.cells C U)
  have h2 := Blk.new ((w.alloc (.cells A S)).alloc (.cells B T)) U C
  simp only [World.size_alloc] at h1 h2
  exact ⟨_, _, rfl, rfl, (((Ext.refl w).alloc _).alloc _).alloc _, h0, h1, h2⟩
end Go.Proofs.Yteiknefajlocoaa
