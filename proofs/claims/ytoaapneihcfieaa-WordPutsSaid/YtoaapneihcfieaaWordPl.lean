/- The walk of WordPuts. -/
import Derived.Test.YtoaapneihcfieaaWord2
import Derived.Test.YtoaapneihcfieaaWord3
namespace Go.Proofs.Ytoaapneihcfieaa
open Go.ChangeShapes Go.WideShapes Go.ChangeAt Go.RowKit
set_option linter.unusedVariables false
set_option linter.unusedSimpArgs false

theorem fault_eq (x y : Int) (w : World) : (binOp .eql 47 (.agg #[.int .i64 x, .int .i64 y]) (.agg #[.int .i64 x, .int .i64 y])).run Try.prog w = .ok (.bool true) w := by
  go_simp
set_option maxHeartbeats 1000000 in
theorem wordPuts_walk {p : LProg} {v : Value} {w : World} (hp : ProgAt w v p) :
    Calls Try.prog 12 #[v] w fun e w' => e = .returned (.bool true) ∧ Ext w w' := by
  have HP := Lib.hid hp
  obtain ⟨v1, v2, rfl, -⟩ := hp
  have hfe := fault_eq
  go_enter Try.func12, Try.ntmps12
  go_wp2_with fail
  obtain ⟨W, g, hg, hW, hx, c0, c1⟩ := new2 w 38 v1 v2
  rw [hW, hg]
  have X := Lib.hid hx
  clear hW hg hx
  have C := wPut_c p _ W (HP.out.ext X.out)
  (with_reducible refine C.mono ?_)
  clear C
  rintro e w1 ⟨u, rfl, hu, h1⟩
  have X := Lib.hid (X.out.trans h1)
  have HU := Lib.hid hu
  have c0 := kept2 h1 c0
  have c1 := kept2 h1 c1
  have hgl := block_lt c0.1
  clear h1 hu
  generalize hq : putW p = q at *
  go_wp2_with fail
  obtain ⟨w2, k, hk, hW2, hx2, f0, f1⟩ := new2 w1 47 (.int .i64 q.2.1) (.int .i64 q.2.2)
  rw [hW2, hk]
  have X := Lib.hid (X.out.trans hx2)
  have HU := Lib.hid (HU.out.ext hx2)
  clear hW2 hk hx2
  have C := rPut_c p _ w2 (HP.out.ext X.out)
  rw [hq] at C
  (with_reducible refine C.mono ?_)
  clear C
  rintro e w3 ⟨u2, rfl, hu2, h1⟩
  have X := Lib.hid (X.out.trans h1)
  have HU := Lib.hid (HU.out.ext h1)
  have HU2 := Lib.hid hu2
  have f0 := kept2 h1 f0
  have f1 := kept2 h1 f1
  have hkl := block_lt f0.1
  clear h1 hu2 c0 c1
  go_wp2_with fail
  obtain ⟨w4, k2, hk2, hW4, hx4, -, -⟩ := new2 w3 47 (.int .i64 q.2.1) (.int .i64 q.2.2)
  rw [hW4]
  have X := Lib.hid (X.out.trans hx4)
  have C := rWordsEq_c q.1 u u2 w4 (HU.out.ext hx4) (HU2.out.ext hx4)
  clear hW4 hk2 hx4
  (with_reducible refine C.mono ?_)
  clear C
  rintro e w5 ⟨rfl, h1⟩
  have X := Lib.hid (X.out.trans h1)
  clear h1
  go_wp2
  go_ret
  exact ⟨rfl, X.out⟩
end Go.Proofs.Ytoaapneihcfieaa
