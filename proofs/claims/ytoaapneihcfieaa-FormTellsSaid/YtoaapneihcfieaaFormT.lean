/- The walk of FormTells. -/
import Derived.Test.YtoaapneihcfieaaFormF
import Derived.Test.YtoaapneihcfieaaFormS2
namespace Go.Proofs.Ytoaapneihcfieaa
open Go.ChangeShapes Go.WideShapes Go.ChangeAt Go.RowKit
set_option linter.unusedVariables false
set_option linter.unusedSimpArgs false

set_option maxHeartbeats 1000000 in
theorem formTells_walk {p : LProg} {v : Value} {m : List (List Int)} {vm : Value} {w : World} (hp : ProgAt w v p) (hm : MemAt w vm m) :
    Calls Try.prog 10 #[v, vm] w fun e w' => e = .returned (.bool true) ∧ Ext w w' := by
  have HP := Lib.hid hp
  have HM := Lib.hid hm
  obtain ⟨v1, v2, rfl, -⟩ := hp
  clear hm
  go_enter Try.func10, Try.ntmps10
  go_wp2_with fail
  obtain ⟨w0, g, hg, hW, hx, c0, c1⟩ := new2 w 38 v1 v2
  rw [hW, hg]
  have X := Lib.hid hx
  clear hW hg hx
  have b1 : (mayOk p == mayOk p) = true := by simp
  have b2 : (hardOk p == hardOk p) = true := by simp
  have b3 : (fitsOk p m == fitsOk p m) = true := by simp
  have C := may_c p _ w0 (HP.out.ext X.out)
  (with_reducible refine C.mono ?_)
  clear C
  rintro e w1 ⟨rfl, h1⟩
  have X := Lib.hid (X.out.trans h1)
  have c0 := kept2 h1 c0
  have c1 := kept2 h1 c1
  clear h1
  go_wp2_with fail
  have C := hard_c p _ w1 (HP.out.ext X.out)
  (with_reducible refine C.mono ?_)
  clear C
  rintro e w2 ⟨rfl, h1⟩
  have X := Lib.hid (X.out.trans h1)
  have c0 := kept2 h1 c0
  have c1 := kept2 h1 c1
  clear h1
  go_wp2_with fail
  have C := lFits_c p _ m vm w2 (HP.out.ext X.out) (HM.out.ext X.out)
  (with_reducible refine C.mono ?_)
  clear C
  rintro e w3 ⟨rfl, h1⟩
  have X := Lib.hid (X.out.trans h1)
  have c0 := kept2 h1 c0
  have c1 := kept2 h1 c1
  clear h1
  go_wp2_with fail
  have C := rMay_c p _ w3 (HP.out.ext X.out)
  (with_reducible refine C.mono ?_)
  clear C
  rintro e w4 ⟨rfl, h1⟩
  have X := Lib.hid (X.out.trans h1)
  have c0 := kept2 h1 c0
  have c1 := kept2 h1 c1
  clear h1
  go_wp2_with fail
  have C := rHard_c p _ w4 (HP.out.ext X.out)
  (with_reducible refine C.mono ?_)
  clear C
  rintro e w5 ⟨rfl, h1⟩
  have X := Lib.hid (X.out.trans h1)
  have c0 := kept2 h1 c0
  have c1 := kept2 h1 c1
  clear h1
  go_wp2_with fail
  have C := rFits_c p _ m vm w5 (HP.out.ext X.out) (HM.out.ext X.out)
  (with_reducible refine C.mono ?_)
  clear C
  rintro e w6 ⟨rfl, h1⟩
  have X := Lib.hid (X.out.trans h1)
  have c0 := kept2 h1 c0
  have c1 := kept2 h1 c1
  clear h1
  go_wp2
  go_ret
  exact ⟨rfl, X.out⟩
end Go.Proofs.Ytoaapneihcfieaa
