/- Walks of the reference's Is, May, Hard (chapter 2). -/
import Derived.Test.YteiknefajlocoaaFormR3
import Derived.Test.YteiknefajlocoaaFormR4
import Derived.Test.YteiknefajlocoaaFormR5
import Derived.Test.YteiknefajlocoaaFormR6
import Derived.Test.YteiknefajlocoaaForm5
namespace Go.Proofs.Yteiknefajlocoaa
open Go.ChangeShapes Go.WideShapes Go.ChangeAt Go.RowKit
set_option linter.unusedVariables false
set_option linter.unusedSimpArgs false

set_option maxRecDepth 100000 in
set_option maxHeartbeats 1000000 in
theorem rIns_none (p : LProg) (vp : Value) (R : Int) (op : Int) (h : op ≤ 20 ∨ 30 < op) (n1 : (op == 1) = false) (n2 : (op == 2) = false) (n3 : (op == 3) = false) (n4 : (op == 4) = false) (n5 : (op == 5) = false) (n6 : (op == 6) = false) (n7 : (op == 7) = false) (n8 : (op == 8) = false) (n9 : (op == 9) = false) (n10 : (op == 10) = false) (n11 : (op == 11) = false) (n12 : (op == 12) = false) (a b c n : Int) (w : World) (hp : ProgAt w vp p) :
    Calls Try.prog 100 #[vp, .agg #[.int .i64 op, .int .i64 a, .int .i64 b, .int .i64 c, .int .i64 n], .int .i64 R] w fun e w' => e = .returned (.bool (insOk p R ⟨op, a, b, c, n⟩)) ∧ Ext w w' := by
  obtain ⟨v1, v2, rfl, -⟩ := hp
  have Hf : Hid (insOk p R ⟨op, a, b, c, n⟩ = false) := Lib.hid (by
    have e : ∀ k : Int, (op == k) = false → ¬ op = k := fun k h => by simpa using h
    have m1 := e 1 n1; have m2 := e 2 n2; have m3 := e 3 n3; have m4 := e 4 n4; have m5 := e 5 n5; have m6 := e 6 n6; have m7 := e 7 n7; have m8 := e 8 n8; have m9 := e 9 n9; have m10 := e 10 n10; have m11 := e 11 n11; have m12 := e 12 n12
    unfold insOk; simp [m1, m2, m3, m4, m5, m6, m7, m8, m9, m10, m11, m12, okIn]; omega)
  rw [Hf.out]
  go_enter Try.func100, Try.ntmps100
  go_wp2_with fail
  obtain ⟨W, g, hg, hW, hx, bA, bB⟩ := blocks2 w #[v1, v2] #[.int .i64 op, .int .i64 a, .int .i64 b, .int .i64 c, .int .i64 n] 25 70
  rw [hW, hg]
  have X := Lib.hid hx
  clear hW hg hx
  have C := shape_none op h n1 n2 n3 n4 n5 n6 n7 n8 n9 n10 n11 n12 W
  (with_reducible refine C.mono ?_)
  clear C
  rintro e w1 ⟨rfl, rfl⟩
  go_wp2
  go_ret
  exact ⟨rfl, X.out⟩
theorem rIns_c (p : LProg) (vp : Value) (R : Int) (fR : R64 R) (i : LIns) (hi : i.fits) (w : World) (hp : ProgAt w vp p) (hreg : ∀ r ∈ p.regs, 0 ≤ r.log ∧ r.log ≤ 6) :
    Calls Try.prog 100 #[vp, .agg #[.int .i64 i.op, .int .i64 i.a, .int .i64 i.b, .int .i64 i.c, .int .i64 i.n], .int .i64 R] w fun e w' => e = .returned (.bool (insOk p R i)) ∧ Ext w w' := by
  obtain ⟨op, a, b, c, n⟩ := i
  obtain ⟨fo, fa, fb, fc, fn⟩ := hi
  by_cases e1 : op = 1
  · subst e1; exact rIns_1 p vp R a b c n fa fb fc fn fR w hp
  by_cases e2 : op = 2
  · subst e2; exact rIns_2 p vp R a b c n fa fb fc fn fR w hp
  by_cases e3 : op = 3
  · subst e3; exact rIns_3 p vp R a b c n fa fb fc fn fR w hp
  by_cases e4 : op = 4
  · subst e4; exact rIns_4 p vp R a b c n fa fb fc fn fR w hp
  by_cases e5 : op = 5
  · subst e5; exact rIns_5 p vp R a b c n fa fb fc fn fR w hp hreg
  by_cases e6 : op = 6
  · subst e6; exact rIns_6 p vp R a b c n fa fb fc fn fR w hp hreg
  by_cases e7 : op = 7
  · subst e7; exact rIns_7 p vp R a b c n fa fb fc fn fR w hp
  by_cases e8 : op = 8
  · subst e8; exact rIns_8 p vp R a b c n fa fb fc fn fR w hp
  by_cases e9 : op = 9
  · subst e9; exact rIns_9 p vp R a b c n fa fb fc fn fR w hp
  by_cases e10 : op = 10
  · subst e10; exact rIns_10 p vp R a b c n fa fb fc fn fR w hp
  by_cases e11 : op = 11
  · subst e11; exact rIns_11 p vp R a b c n fa fb fc fn fR w hp
  by_cases e12 : op = 12
  · subst e12; exact rIns_12 p vp R a b c n fa fb fc fn fR w hp
  by_cases hr : 20 < op ∧ op ≤ 30
  · exact rIns_op p vp R op a b c n fa fb fc fn fR w hp fo hr.1 hr.2 (by simpa using e1) (by simpa using e2) (by simpa using e3) (by simpa using e4) (by simpa using e5) (by simpa using e6) (by simpa using e7) (by simpa using e8) (by simpa using e9) (by simpa using e10) (by simpa using e11) (by simpa using e12)
  · exact rIns_none p vp R op (by omega) (by simpa using e1) (by simpa using e2) (by simpa using e3) (by simpa using e4) (by simpa using e5) (by simpa using e6) (by simpa using e7) (by simpa using e8) (by simpa using e9) (by simpa using e10) (by simpa using e11) (by simpa using e12) a b c n w hp
end Go.Proofs.Yteiknefajlocoaa
