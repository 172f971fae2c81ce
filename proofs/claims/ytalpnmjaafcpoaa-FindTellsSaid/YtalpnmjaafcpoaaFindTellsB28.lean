/- Laid together from: SeqR. -/
import Derived.Test.YtalpnmjaafcpoaaFindTellsB27

namespace Go.Proofs.Ytalpnmjaafcpoaa
open Go.ChangeShapes Go.WideShapes Go.ChangeAt Go.RowKit
set_option linter.unusedVariables false
set_option linter.unusedSimpArgs false
theorem Q7o {w : World} {v : Value} {fin value : Int} {steps : Nat} {seen : List LSee} {mem : List (List Int)} (h : Q2v w v fin value steps seen mem) :
  ∃ a c b d, v = .agg #[.int .i64 fin, .int .i64 value, .int .i64 steps, .slice a seen.length c, .slice b mem.length d] := by
 obtain ⟨vs, vm, rfl, ⟨oa, cap, b, o, rfl, -⟩, ⟨ob, capb, b2, o2, rfl, -⟩⟩ := h
 exact ⟨_, _, _, _, rfl⟩
end Go.Proofs.Ytalpnmjaafcpoaa
