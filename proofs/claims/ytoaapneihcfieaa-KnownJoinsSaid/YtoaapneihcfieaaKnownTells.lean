/- The walk of KnownTells: what the program tells of what is known is what the reference tells. -/
import Derived.Test.YtoaapneihcfieaaKnownLaws
import Derived.Lib.QuietBelow
namespace Go.Proofs.Ytoaapneihcfieaa
open Go.ChangeShapes Go.WideShapes Go.ChangeAt Go.RowKit Go.Sort

theorem known_eq (x : Int) (y : Bool) (w : World) : (binOp .eql 25 (.agg #[.int .i64 x, .bool y]) (.agg #[.int .i64 x, .bool y])).run Try.prog w = .ok (.bool true) w := by
  go_simp

set_option maxHeartbeats 4000000 in
theorem knownTells_walk (op : Int) (_w0 : (Lit.int .i64 op).wf = true) (b : Int) (s : Bool) (_w1 : (Lit.int .i64 b).wf = true) (c : Int) (t : Bool) (_w2 : (Lit.int .i64 c).wf = true) (n : Int) (_wn : (Lit.int .i64 n).wf = true) (w : World) :
    Calls Try.prog 8 #[.int .i64 op, .agg #[.int .i64 b, .bool s], .agg #[.int .i64 c, .bool t], .int .i64 n] w fun e w' => e = .returned (.bool true) ∧ Ext w w' := by
  go_enter Try.func8, Try.ntmps8
  go_wp2_with fail
  obtain ⟨w0, g, hg, hW, E, a0, a1, b0, b1⟩ := two_new w 25 (.int .i64 b) (.bool s) (.int .i64 c) (.bool t)
  rw [hW, hg]
  clear hW hg
  go_wp2_with fail
  refine (kOp_c op b c s t _).mono ?_
  rintro e w1 ⟨rfl, hx⟩
  have a0 := kept2 hx a0
  have a1 := kept2 hx a1
  have b0 := kept2 hx b0
  have b1 := kept2 hx b1
  have E := E.trans hx
  clear hx
  have za0 : g < w1.heap.size := block_lt a0.1
  have zb0 : g + 1 < w1.heap.size := block_lt b0.1
  go_wp2_with fail
  clear za0 zb0
  obtain ⟨w2, gx, hk, hW, hx, x0, x1⟩ := new2 w1 25 (.int .i64 (kop op (nrm b) (nrm c))) (.bool (s || t))
  rw [hW, hk]
  have a0 := kept2 hx a0
  have a1 := kept2 hx a1
  have b0 := kept2 hx b0
  have b1 := kept2 hx b1
  have E := E.trans hx
  clear hx hW hk
  go_wp2_with fail
  refine (join_c b c s t _).mono ?_
  rintro e w3 ⟨rfl, hx⟩
  have a0 := kept2 hx a0
  have a1 := kept2 hx a1
  have b0 := kept2 hx b0
  have b1 := kept2 hx b1
  have x0 := kept2 hx x0
  have x1 := kept2 hx x1
  have E := E.trans hx
  clear hx
  have za0 : g < w3.heap.size := block_lt a0.1
  have zb0 : g + 1 < w3.heap.size := block_lt b0.1
  have zx0 : gx < w3.heap.size := block_lt x0.1
  go_wp2_with fail
  clear za0 zb0 zx0
  obtain ⟨w4, gj, hk, hW, hx, j0, j1⟩ := new2 w3 25 (.int .i64 (max (nrm b) (nrm c))) (.bool (s || t))
  rw [hW, hk]
  have a0 := kept2 hx a0
  have a1 := kept2 hx a1
  have b0 := kept2 hx b0
  have b1 := kept2 hx b1
  have x0 := kept2 hx x0
  have x1 := kept2 hx x1
  have E := E.trans hx
  clear hx hW hk
  go_wp2_with fail
  refine (less_c b c s t _).mono ?_
  rintro e w5 ⟨rfl, hx⟩
  have a0 := kept2 hx a0
  have a1 := kept2 hx a1
  have b0 := kept2 hx b0
  have b1 := kept2 hx b1
  have x0 := kept2 hx x0
  have x1 := kept2 hx x1
  have j0 := kept2 hx j0
  have j1 := kept2 hx j1
  have E := E.trans hx
  clear hx
  have za0 : g < w5.heap.size := block_lt a0.1
  have zb0 : g + 1 < w5.heap.size := block_lt b0.1
  have zx0 : gx < w5.heap.size := block_lt x0.1
  have zj0 : gj < w5.heap.size := block_lt j0.1
  go_wp2_with fail
  clear za0 zb0 zx0 zj0
  obtain ⟨w6, gl, hk, hW, hx, l0, l1⟩ := new2 w5 25 (.int .i64 (min (nrm b) (nrm c))) (.bool s)
  rw [hW, hk]
  have a0 := kept2 hx a0
  have a1 := kept2 hx a1
  have b0 := kept2 hx b0
  have b1 := kept2 hx b1
  have x0 := kept2 hx x0
  have x1 := kept2 hx x1
  have j0 := kept2 hx j0
  have j1 := kept2 hx j1
  have E := E.trans hx
  clear hx hW hk
  go_wp2_with fail
  refine (kOf_c n _).mono ?_
  rintro e w7 ⟨rfl, hx⟩
  have a0 := kept2 hx a0
  have a1 := kept2 hx a1
  have b0 := kept2 hx b0
  have b1 := kept2 hx b1
  have x0 := kept2 hx x0
  have x1 := kept2 hx x1
  have j0 := kept2 hx j0
  have j1 := kept2 hx j1
  have l0 := kept2 hx l0
  have l1 := kept2 hx l1
  have E := E.trans hx
  clear hx
  have za0 : g < w7.heap.size := block_lt a0.1
  have zb0 : g + 1 < w7.heap.size := block_lt b0.1
  have zx0 : gx < w7.heap.size := block_lt x0.1
  have zj0 : gj < w7.heap.size := block_lt j0.1
  have zl0 : gl < w7.heap.size := block_lt l0.1
  go_wp2_with fail
  clear za0 zb0 zx0 zj0 zl0
  obtain ⟨w8, go, hk, hW, hx, o0, o1⟩ := new2 w7 25 (.int .i64 (kof n)) (.bool false)
  rw [hW, hk]
  have a0 := kept2 hx a0
  have a1 := kept2 hx a1
  have b0 := kept2 hx b0
  have b1 := kept2 hx b1
  have x0 := kept2 hx x0
  have x1 := kept2 hx x1
  have j0 := kept2 hx j0
  have j1 := kept2 hx j1
  have l0 := kept2 hx l0
  have l1 := kept2 hx l1
  have E := E.trans hx
  clear hx hW hk
  go_wp2_with fail
  refine (kHas_c b n s _).mono ?_
  rintro e w9 ⟨rfl, hx⟩
  have a0 := kept2 hx a0
  have a1 := kept2 hx a1
  have b0 := kept2 hx b0
  have b1 := kept2 hx b1
  have x0 := kept2 hx x0
  have x1 := kept2 hx x1
  have j0 := kept2 hx j0
  have j1 := kept2 hx j1
  have l0 := kept2 hx l0
  have l1 := kept2 hx l1
  have o0 := kept2 hx o0
  have o1 := kept2 hx o1
  have E := E.trans hx
  clear hx
  have ka0 := cell_regrown a0.1
  have ka1 := cell_regrown a1.1
  have kb0 := cell_regrown b0.1
  have kb1 := cell_regrown b1.1
  have kx0 := cell_regrown x0.1
  have kx1 := cell_regrown x1.1
  have kj0 := cell_regrown j0.1
  have kj1 := cell_regrown j1.1
  have kl0 := cell_regrown l0.1
  have kl1 := cell_regrown l1.1
  have ko0 := cell_regrown o0.1
  have ko1 := cell_regrown o1.1
  clear a0 a1 b0 b1 x0 x1 j0 j1 l0 l1 o0 o1
  have keq := known_eq
  have c1 : ∀ d os, Calls Try.prog 25 #[.int .i64 op, .agg #[.int .i64 b, .bool s], .agg #[.int .i64 c, .bool t]] (grow (redrawn w9 d) os) fun e w'' => e = .returned (.agg #[.int .i64 (kop op (nrm b) (nrm c)), .bool (s || t)]) ∧ ∃ p : Regrown, w'' = grow (redrawn w9 p.d) p.os := fun d os => Calls.regrown_of (rKop_c op b c s t _)
  have c2 : ∀ d os, Calls Try.prog 26 #[.agg #[.int .i64 b, .bool s], .agg #[.int .i64 c, .bool t]] (grow (redrawn w9 d) os) fun e w'' => e = .returned (.agg #[.int .i64 (max (nrm b) (nrm c)), .bool (s || t)]) ∧ ∃ p : Regrown, w'' = grow (redrawn w9 p.d) p.os := fun d os => Calls.regrown_of (rJoin_c b c s t _)
  have c3 : ∀ d os, Calls Try.prog 27 #[.agg #[.int .i64 b, .bool s], .agg #[.int .i64 c, .bool t]] (grow (redrawn w9 d) os) fun e w'' => e = .returned (.agg #[.int .i64 (min (nrm b) (nrm c)), .bool s]) ∧ ∃ p : Regrown, w'' = grow (redrawn w9 p.d) p.os := fun d os => Calls.regrown_of (rLess_c b c s t _)
  have c4 : ∀ d os, Calls Try.prog 28 #[.int .i64 n] (grow (redrawn w9 d) os) fun e w'' => e = .returned (.agg #[.int .i64 (kof n), .bool false]) ∧ ∃ p : Regrown, w'' = grow (redrawn w9 p.d) p.os := fun d os => Calls.regrown_of (rOf_c n _)
  have c5 : ∀ d os, Calls Try.prog 21 #[.agg #[.int .i64 b, .bool s], .int .i64 n] (grow (redrawn w9 d) os) fun e w'' => e = .returned (.bool (khas b n)) ∧ ∃ p : Regrown, w'' = grow (redrawn w9 p.d) p.os := fun d os => Calls.regrown_of (rHas_c b n s _)
  go_wp2_with fail
  refine wp_region_quiet_below (by kernel_rfl) (by kernel_rfl) ?_
  repeat (quiet_step (first | exact c1 _ _ | exact c2 _ _ | exact c3 _ _ | exact c4 _ _ | exact c5 _ _))
  refine wpQuiet_nil ?_
  intro _ hw'
  obtain ⟨⟨dq, osq⟩, hw''⟩ := hw'
  subst hw''
  go_wp2
  go_ret
  exact ⟨rfl, E.trans (below_regrown w9 dq osq)⟩
end Go.Proofs.Ytoaapneihcfieaa
