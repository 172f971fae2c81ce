/- The walk of FormHard. -/
import Derived.Test.YtoaapneihcfieaaForm5
import Derived.Test.YtoaapneihcfieaaSemL
namespace Go.Proofs.Ytoaapneihcfieaa
open Go.ChangeShapes Go.WideShapes Go.ChangeAt Go.RowKit
set_option linter.unusedVariables false
set_option linter.unusedSimpArgs false

def oneP : LProg := ⟨[], [⟨9, 0, 0, 0, 0⟩]⟩
theorem one_may : mayOk oneP = true := by decide
theorem one_at {w : World} {e : Nat} {T : TypeId} (h : Blk w e T #[.int .i64 9, .int .i64 0, .int .i64 0, .int .i64 0, .int .i64 0]) : ProgAt w (.agg #[.slice none 0 0, .slice (some ⟨e, 0, none⟩) 1 1]) oneP := by
  refine ⟨_, _, rfl, ⟨by simp [oneP], none, 0, 0, 0, rfl, by simp [oneP], by decide, ⟨fun h => by simp [oneP] at h, fun i j hi => by simp [oneP] at hi⟩⟩, ⟨fun i hi => ?_, some ⟨e, 0, none⟩, 1, e, 0, rfl, by simp [oneP], by decide, ⟨fun _ => rfl, fun i j hi hj => ?_⟩⟩⟩
  · simp [oneP] at hi
    subst hi
    simp [LIns.fits, R64]
  · simp [oneP] at hi
    subst hi
    rw [show 0 + 0 * 5 + j = j by omega, h.cell]
    rcases (show j = 0 ∨ j = 1 ∨ j = 2 ∨ j = 3 ∨ j = 4 by omega) with rfl | rfl | rfl | rfl | rfl <;> rfl
theorem blocks3 (w : World) (A B C : Array Value) (S T U : TypeId) : ∃ W g, w.heap.size = g ∧ ((w.alloc (.cells A S)).alloc (.cells B T)).alloc (.cells C U) = W ∧ Ext w W ∧ Blk W g S A ∧ Blk W (g + 1) T B ∧ Blk W (g + 1 + 1) U C := by
  have h0 := ((Blk.new w S A).alloc (.cells B T)).alloc (.cells C U)
  have h1 := (Blk.new (w.alloc (.cells A S)) T B).alloc (.cells C U)
  have h2 := Blk.new ((w.alloc (.cells A S)).alloc (.cells B T)) U C
  simp only [World.size_alloc] at h1 h2
  exact ⟨_, _, rfl, rfl, (((Ext.refl w).alloc _).alloc _).alloc _, h0, h1, h2⟩
set_option maxHeartbeats 1000000 in
theorem formHard_walk {p : LProg} {v : Value} {w : World} (hp : ProgAt w v p) :
    Calls Try.prog 9 #[v] w fun e w' => e = .returned (.bool true) ∧ Ext w w' := by
  have HP := Lib.hid hp
  obtain ⟨v1, v2, rfl, -⟩ := hp
  go_enter Try.func9, Try.ntmps9
  go_wp2_with fail
  obtain ⟨W, g, hg, hW, hx, bA, bB, bC⟩ := blocks3 w #[v1, v2] #[.int .i64 9, .int .i64 0, .int .i64 0, .int .i64 0, .int .i64 0] #[.slice none 0 0, .slice (some ⟨w.heap.size + 1, 0, none⟩) 1 1] 38 40 38
  rw [hW, hg]
  rw [hg] at bC
  have X := Lib.hid hx
  have c0 : W.cell? ⟨g, 0, none⟩ = some v1 := by rw [bA.cell]; rfl
  have c1 : W.cell? ⟨g, 1, none⟩ = some v2 := by rw [bA.cell]; rfl
  have hgl := bA.lt
  have C := may_c oneP _ W (one_at bB)
  rw [one_may] at C
  clear hW hg hx bA bB bC
  (with_reducible refine C.mono ?_)
  rintro e w1 ⟨rfl, h1⟩
  have X := Lib.hid (X.out.trans h1)
  have c0 := h1.kept c0
  have c1 := h1.kept c1
  clear h1 C
  have C := may_c p _ w1 (HP.out.ext X.out)
  have D := fun w' (h : Ext w1 w') => hard_c p _ w' (HP.out.ext (X.out.trans h))
  cases hm : mayOk p
  · rw [hm] at C
    go_wp2_with fail
    (with_reducible refine C.mono ?_)
    rintro e w2 ⟨rfl, h1⟩
    have X := Lib.hid (X.out.trans h1)
    clear h1 C D hm
    go_wp2
    go_ret
    exact ⟨rfl, X.out⟩
  · rw [hm] at C
    rw [may_hard hm] at D
    go_wp2_with fail
    (with_reducible refine C.mono ?_)
    rintro e w2 ⟨rfl, h1⟩
    have X := Lib.hid (X.out.trans h1)
    have c0 := h1.kept c0
    have c1 := h1.kept c1
    have C := D w2 h1
    clear h1 D hm
    go_wp2_with fail
    (with_reducible refine C.mono ?_)
    rintro e w3 ⟨rfl, h1⟩
    have X := Lib.hid (X.out.trans h1)
    clear h1 C
    go_wp2
    go_ret
    exact ⟨rfl, X.out⟩
end Go.Proofs.Ytoaapneihcfieaa
