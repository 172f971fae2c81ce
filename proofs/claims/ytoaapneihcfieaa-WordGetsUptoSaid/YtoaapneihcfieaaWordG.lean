/- The walk of WordGets. -/
import Derived.Test.YtoaapneihcfieaaWord5
namespace Go.Proofs.Ytoaapneihcfieaa
open Go.ChangeShapes Go.WideShapes Go.ChangeAt Go.RowKit
set_option linter.unusedVariables false
set_option linter.unusedSimpArgs false

theorem fault_eq' (x y : Int) (w : World) : (binOp .eql 47 (.agg #[.int .i64 x, .int .i64 y]) (.agg #[.int .i64 x, .int .i64 y])).run Try.prog w = .ok (.bool true) w := by
  go_simp
set_option maxHeartbeats 1000000 in
theorem wordGets_walk {r : List LReg} {ws : List Int} {v u : Value} {w : World} (hr : RegsAt w v r) (hu : U32sAt w u ws) (h1 : r.length ≤ 1048576) (h2 : ws.length ≤ 1048576) :
    Calls Try.prog 11 #[v, u] w fun e w' => e = .returned (.bool true) ∧ Ext w w' := by
  have HR := Lib.hid hr
  have HU := Lib.hid hu
  have hfe := fault_eq'
  have H1 := Lib.hid h1
  have H2 := Lib.hid h2
  clear hr hu h1 h2
  go_enter Try.func11, Try.ntmps11
  go_wp2_with fail
  have C := wGet_c r ws v u w HR.out HU.out H1.out H2.out
  have D := fun W (X : Ext w W) => rGet_c r ws v u W (HR.out.ext X) (HU.out.ext X) H2.out
  generalize getW r ws = q at C D
  have D := Lib.hid D
  (with_reducible refine C.mono ?_)
  clear C
  rintro e w1 ⟨x, rfl, hp, hx⟩
  obtain ⟨o1, n1, s1, o2, n2, s2, rfl⟩ := prog_sl hp
  have HP := Lib.hid hp
  have X := Lib.hid hx
  clear hp hx
  go_wp2_with fail
  obtain ⟨w2, g, hg, hW, hx, bA, bB⟩ := blocks2 w1 #[.slice o1 n1 s1, .slice o2 n2 s2] #[.int .i64 q.2, .int .i64 0] 38 47
  rw [hW, hg]
  have X := Lib.hid (X.out.trans hx)
  have HP := Lib.hid (HP.out.ext hx)
  clear hW hg hx
  have C := D.out w2 X.out
  (with_reducible refine C.mono ?_)
  clear C D
  rintro e w3 ⟨y, rfl, hp, hx⟩
  obtain ⟨o3, n3, s3, o4, n4, s4, rfl⟩ := prog_sl hp
  have HQ := Lib.hid hp
  have X := Lib.hid (X.out.trans hx)
  have HP := Lib.hid (HP.out.ext hx)
  have bA := bA.ext hx
  have bB := bB.ext hx
  clear hp hx
  have a0 : w3.cell? ⟨g, 0, none⟩ = some (.slice o1 n1 s1) := by rw [bA.cell]; rfl
  have a1 : w3.cell? ⟨g, 1, none⟩ = some (.slice o2 n2 s2) := by rw [bA.cell]; rfl
  have b0 : w3.cell? ⟨g + 1, 0, none⟩ = some (.int .i64 q.2) := by rw [bB.cell]; rfl
  have b1 : w3.cell? ⟨g + 1, 1, none⟩ = some (.int .i64 0) := by rw [bB.cell]; rfl
  have hgl := bB.lt
  have hgl2 := bA.lt
  go_wp2_with fail
  have hx : Ext w3 ((w3.alloc (.cells #[.slice o3 n3 s3, .slice o4 n4 s4] 38)).alloc (.cells #[.int .i64 q.2, .int .i64 0] 47)) := ((Ext.refl _).alloc _).alloc _
  have C := rSame_c q.1 _ _ _ (HP.out.ext hx) (HQ.out.ext hx)
  (with_reducible refine C.mono ?_)
  clear C
  rintro e w5 ⟨rfl, hx5⟩
  have X := Lib.hid ((X.out.trans hx).trans hx5)
  clear hx5
  clear hx
  go_wp2
  go_ret
  exact ⟨rfl, X.out⟩
end Go.Proofs.Ytoaapneihcfieaa
