/- Arguments opened: what is known. -/
import Derived.Test.YtoaapneihcfieaaProg
import Derived.Test.YtoaapneihcfieaaBase
import Derived.Lib.SmallJoins
namespace Go.Proofs.Ytoaapneihcfieaa
open Go.ChangeShapes Go.WideShapes Go.ChangeAt Go.RowKit Go.Joins

theorem cellsKnown : Try.prog.cellsOf 25 = 2 := by kernel_rfl
theorem open_known {H : Type} {enc : TypeId × Value → H} {W : World} {base b0 : Nat} {sp : Nat → Bool} {held : Bool} {r : Reach} {v : Value} {d : DataW H} {p : List MemPlace}
    (hv : Value.okWide Try.prog W r b0 25 v) (h : DataW.Trod enc Try.prog W base sp held 25 v d p) : ∃ (k : Int) (s : Bool), v = .agg #[.int .i64 k, .bool s] ∧ (Lit.int .i64 k).wf = true := by
  obtain ⟨c0, c1, y0, y1, m, rfl, rfl, rfl, hy0, hy1⟩ := open_agg2 Try.underlying25 (by kernel_rfl) cellsKnown hv h
  obtain ⟨a, e0, rfl, wa⟩ := DataW.trod_int Try.underlying3 hy0
  obtain ⟨s, e1, rfl⟩ := DataW.trod_bool Try.underlying4 hy1
  simp at e0 e1
  subst e0 e1
  exact ⟨a, s, rfl, wa⟩
end Go.Proofs.Ytoaapneihcfieaa
