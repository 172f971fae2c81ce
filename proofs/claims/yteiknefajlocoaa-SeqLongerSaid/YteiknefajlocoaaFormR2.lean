/- The walk of the reference's ins, a kind of instruction each. -/
import Derived.Test.YteiknefajlocoaaFormR
namespace Go.Proofs.Yteiknefajlocoaa
open Go.ChangeShapes Go.WideShapes Go.ChangeAt Go.RowKit
set_option linter.unusedVariables false
set_option linter.unusedSimpArgs false

def tri (x y z : Int) (t : Nat) : Int := if t = 0 then x else if t = 1 then y else z
/-- may a field be: of a kind (0: nothing, 1: a register) -/
def fok (R l f : Int) : Bool := if l = 0 then decide (f = 0) else if l = 1 then decide (0 ≤ f) && decide (f < R) else true
theorem blk_tri {w : World} {k : Nat} {T : TypeId} {x y z : Int} (h : Blk w k T #[.int .i64 x, .int .i64 y, .int .i64 z]) (t : Nat) (ht : t < 3) : w.cell? ⟨k, t, none⟩ = some (.int .i64 (tri x y z t)) := by
  rw [h.cell]
  rcases (show t = 0 ∨ t = 1 ∨ t = 2 by omega) with rfl | rfl | rfl <;> rfl
theorem index_three (k : Nat) (W : World) (i : Int) (h0 : 0 ≤ i) (h1 : i < 3) : (Instr.indexAt 51 (.slice (some ⟨k, 0, none⟩) 3 3) (.int .i64 i)).run Try.prog W = .ok (.pointer (some ⟨k, i.toNat, none⟩)) W := by
  have hs : (Try.prog.info? 3).map (·.size) = some 1 := by kernel_rfl
  have h1' : i < ((3 : Nat) : Int) := by omega
  simp [Instr.indexAt, run_underlying Try.underlying51, asIntOf, h0, h1]
  exact (addr_add k 0 _).trans (by simp)
theorem fok_iff {R l f : Int} : fok R l f = true ↔ (l = 0 → f = 0) ∧ (l = 1 → 0 ≤ f ∧ f < R) := by
  unfold fok
  by_cases h0 : l = 0
  · simp [h0]
  by_cases h1 : l = 1
  · simp [h1]
  simp [h0, h1]

end Go.Proofs.Yteiknefajlocoaa
