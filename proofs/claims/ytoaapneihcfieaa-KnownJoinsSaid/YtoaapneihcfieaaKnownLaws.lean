/- The walks of the laws of what is known: KnownHolds, KnownTells, KnownJoins. -/
import Derived.Test.YtoaapneihcfieaaKnown4
import Derived.Test.YtoaapneihcfieaaKnownOp
import Derived.Test.YtoaapneihcfieaaKnownL
import Derived.Test.YtoaapneihcfieaaNumLaws
namespace Go.Proofs.Ytoaapneihcfieaa
open Go.ChangeShapes Go.WideShapes Go.ChangeAt Go.RowKit

theorem new2 (w : World) (T : TypeId) (v0 v1 : Value) : ∃ W g, w.heap.size = g ∧ w.alloc (.cells #[v0, v1] T) = W ∧ Ext w W ∧ (W.cell? ⟨g, 0, none⟩ = some v0 ∧ W.frozen? ⟨g, 0, none⟩ = false) ∧ (W.cell? ⟨g, 1, none⟩ = some v1 ∧ W.frozen? ⟨g, 1, none⟩ = false) :=
  ⟨_, _, rfl, rfl, (Ext.refl _).alloc _, (one_new w T v0 v1).1, (one_new w T v0 v1).2⟩
theorem two_new (w : World) (T : TypeId) (a0 a1 b0 b1 : Value) : ∃ W g, w.heap.size = g ∧ (w.alloc (.cells #[a0, a1] T)).alloc (.cells #[b0, b1] T) = W ∧ Ext w W ∧
    (W.cell? ⟨g, 0, none⟩ = some a0 ∧ W.frozen? ⟨g, 0, none⟩ = false) ∧ (W.cell? ⟨g, 1, none⟩ = some a1 ∧ W.frozen? ⟨g, 1, none⟩ = false) ∧
    (W.cell? ⟨g + 1, 0, none⟩ = some b0 ∧ W.frozen? ⟨g + 1, 0, none⟩ = false) ∧ (W.cell? ⟨g + 1, 1, none⟩ = some b1 ∧ W.frozen? ⟨g + 1, 1, none⟩ = false) := by
  refine ⟨_, _, rfl, rfl, ((Ext.refl _).alloc _).alloc _, ?_⟩
  have h0 := (Blk.new w T #[a0, a1]).alloc (.cells #[b0, b1] T)
  have h1 := Blk.new (w.alloc (.cells #[a0, a1] T)) T #[b0, b1]
  simp only [World.size_alloc] at h1
  exact ⟨⟨by rw [h0.cell]; rfl, h0.frozen 0⟩, ⟨by rw [h0.cell]; rfl, h0.frozen 1⟩, ⟨by rw [h1.cell]; rfl, h1.frozen 0⟩, ⟨by rw [h1.cell]; rfl, h1.frozen 1⟩⟩

set_option maxHeartbeats 1000000 in
theorem holds_no1 (op : Int) (b : Int) (s : Bool) (c : Int) (t : Bool) (n m : Int) (w : World) (h1 : khas b n = false) :
    Calls Try.prog 7 #[.int .i64 op, .agg #[.int .i64 b, .bool s], .agg #[.int .i64 c, .bool t], .int .i64 n, .int .i64 m] w fun e w' => e = .returned (.bool true) ∧ Ext w w' := by
  go_enter Try.func7, Try.ntmps7
  go_wp2_with fail
  obtain ⟨w0, g, hg, hW, E, a0, a1, b0, b1⟩ := two_new w 25 (.int .i64 b) (.bool s) (.int .i64 c) (.bool t)
  rw [hW, hg]
  clear hW hg
  go_wp2_with fail
  refine (rHas_c b n s _).mono ?_
  rintro e w1 ⟨rfl, hx⟩
  have a0 := kept2 hx a0
  have a1 := kept2 hx a1
  have b0 := kept2 hx b0
  have b1 := kept2 hx b1
  have E := E.trans hx
  clear hx
  go_wp2
  go_ret
  exact ⟨rfl, E⟩

set_option maxHeartbeats 1000000 in
theorem holds_no2 (op : Int) (b : Int) (s : Bool) (c : Int) (t : Bool) (n m : Int) (w : World) (h1 : khas b n = true) (h2 : khas c m = false) :
    Calls Try.prog 7 #[.int .i64 op, .agg #[.int .i64 b, .bool s], .agg #[.int .i64 c, .bool t], .int .i64 n, .int .i64 m] w fun e w' => e = .returned (.bool true) ∧ Ext w w' := by
  go_enter Try.func7, Try.ntmps7
  go_wp2_with fail
  obtain ⟨w0, g, hg, hW, E, a0, a1, b0, b1⟩ := two_new w 25 (.int .i64 b) (.bool s) (.int .i64 c) (.bool t)
  rw [hW, hg]
  clear hW hg
  go_wp2_with fail
  refine (rHas_c b n s _).mono ?_
  rintro e w1 ⟨rfl, hx⟩
  have a0 := kept2 hx a0
  have a1 := kept2 hx a1
  have b0 := kept2 hx b0
  have b1 := kept2 hx b1
  have E := E.trans hx
  clear hx
  go_wp2_with fail
  refine (rHas_c c m t _).mono ?_
  rintro e w2 ⟨rfl, hx⟩
  have a0 := kept2 hx a0
  have a1 := kept2 hx a1
  have b0 := kept2 hx b0
  have b1 := kept2 hx b1
  have E := E.trans hx
  clear hx
  go_wp2
  go_ret
  exact ⟨rfl, E⟩

set_option maxHeartbeats 4000000 in
theorem holds_yes (op : Int) (b : Int) (s : Bool) (c : Int) (t : Bool) (n : Int) (n0 : -9223372036854775808 ≤ n) (n1 : n ≤ 9223372036854775807) (m : Int) (m0 : -9223372036854775808 ≤ m) (m1 : m ≤ 9223372036854775807) (w : World) (h1 : khas b n = true) (h2 : khas c m = true) :
    Calls Try.prog 7 #[.int .i64 op, .agg #[.int .i64 b, .bool s], .agg #[.int .i64 c, .bool t], .int .i64 n, .int .i64 m] w fun e w' => e = .returned (.bool true) ∧ Ext w w' := by
  have hX := khas_op (op := op) h1 h2
  obtain ⟨hJ1, hJ2⟩ := khas_join h1 h2
  have hO := khas_of n
  have HL : Hid (nbelow m n = false → khas (min (nrm b) (nrm c)) n = true) := khas_less n0 n1 h1 h2
  go_enter Try.func7, Try.ntmps7
  go_wp2_with fail
  obtain ⟨w0, g, hg, hW, E, a0, a1, b0, b1⟩ := two_new w 25 (.int .i64 b) (.bool s) (.int .i64 c) (.bool t)
  rw [hW, hg]
  clear hW hg
  go_wp2_with fail
  refine (rHas_c b n s _).mono ?_
  rintro e w1 ⟨rfl, hx⟩
  have a0 := kept2 hx a0
  have a1 := kept2 hx a1
  have b0 := kept2 hx b0
  have b1 := kept2 hx b1
  have E := E.trans hx
  clear hx
  go_wp2_with fail
  refine (rHas_c c m t _).mono ?_
  rintro e w2 ⟨rfl, hx⟩
  have a0 := kept2 hx a0
  have a1 := kept2 hx a1
  have b0 := kept2 hx b0
  have b1 := kept2 hx b1
  have E := E.trans hx
  clear hx
  go_wp2_with fail
  refine (refOp_c op n m _ n0 n1 m0 m1).mono ?_
  rintro e w3 ⟨rfl, hx⟩
  have a0 := kept2 hx a0
  have a1 := kept2 hx a1
  have b0 := kept2 hx b0
  have b1 := kept2 hx b1
  have E := E.trans hx
  clear hx
  go_wp2_with fail
  refine (kOp_c op b c s t _).mono ?_
  rintro e w4 ⟨rfl, hx⟩
  have a0 := kept2 hx a0
  have a1 := kept2 hx a1
  have b0 := kept2 hx b0
  have b1 := kept2 hx b1
  have E := E.trans hx
  clear hx
  have za0 : g < w4.heap.size := block_lt a0.1
  have zb0 : g + 1 < w4.heap.size := block_lt b0.1
  go_wp2_with fail
  clear za0 zb0
  obtain ⟨w5, gx, hk, hW, hx, x0, x1⟩ := new2 w4 25 (.int .i64 (kop op (nrm b) (nrm c))) (.bool (s || t))
  rw [hW, hk]
  have a0 := kept2 hx a0
  have a1 := kept2 hx a1
  have b0 := kept2 hx b0
  have b1 := kept2 hx b1
  have E := E.trans hx
  clear hx hW hk
  go_wp2_with fail
  refine (join_c b c s t _).mono ?_
  rintro e w6 ⟨rfl, hx⟩
  have a0 := kept2 hx a0
  have a1 := kept2 hx a1
  have b0 := kept2 hx b0
  have b1 := kept2 hx b1
  have x0 := kept2 hx x0
  have x1 := kept2 hx x1
  have E := E.trans hx
  clear hx
  have za0 : g < w6.heap.size := block_lt a0.1
  have zb0 : g + 1 < w6.heap.size := block_lt b0.1
  have zx0 : gx < w6.heap.size := block_lt x0.1
  go_wp2_with fail
  clear za0 zb0 zx0
  obtain ⟨w7, gj, hk, hW, hx, j0, j1⟩ := new2 w6 25 (.int .i64 (max (nrm b) (nrm c))) (.bool (s || t))
  rw [hW, hk]
  have a0 := kept2 hx a0
  have a1 := kept2 hx a1
  have b0 := kept2 hx b0
  have b1 := kept2 hx b1
  have x0 := kept2 hx x0
  have x1 := kept2 hx x1
  have E := E.trans hx
  clear hx hW hk
  go_wp2_with fail
  refine (less_c b c s t _).mono ?_
  rintro e w8 ⟨rfl, hx⟩
  have a0 := kept2 hx a0
  have a1 := kept2 hx a1
  have b0 := kept2 hx b0
  have b1 := kept2 hx b1
  have x0 := kept2 hx x0
  have x1 := kept2 hx x1
  have j0 := kept2 hx j0
  have j1 := kept2 hx j1
  have E := E.trans hx
  clear hx
  have za0 : g < w8.heap.size := block_lt a0.1
  have zb0 : g + 1 < w8.heap.size := block_lt b0.1
  have zx0 : gx < w8.heap.size := block_lt x0.1
  have zj0 : gj < w8.heap.size := block_lt j0.1
  go_wp2_with fail
  clear za0 zb0 zx0 zj0
  obtain ⟨w9, gl, hk, hW, hx, l0, l1⟩ := new2 w8 25 (.int .i64 (min (nrm b) (nrm c))) (.bool s)
  rw [hW, hk]
  have a0 := kept2 hx a0
  have a1 := kept2 hx a1
  have b0 := kept2 hx b0
  have b1 := kept2 hx b1
  have x0 := kept2 hx x0
  have x1 := kept2 hx x1
  have j0 := kept2 hx j0
  have j1 := kept2 hx j1
  have E := E.trans hx
  clear hx hW hk
  go_wp2_with fail
  refine (kOf_c n _).mono ?_
  rintro e w10 ⟨rfl, hx⟩
  have a0 := kept2 hx a0
  have a1 := kept2 hx a1
  have b0 := kept2 hx b0
  have b1 := kept2 hx b1
  have x0 := kept2 hx x0
  have x1 := kept2 hx x1
  have j0 := kept2 hx j0
  have j1 := kept2 hx j1
  have l0 := kept2 hx l0
  have l1 := kept2 hx l1
  have E := E.trans hx
  clear hx
  have za0 : g < w10.heap.size := block_lt a0.1
  have zb0 : g + 1 < w10.heap.size := block_lt b0.1
  have zx0 : gx < w10.heap.size := block_lt x0.1
  have zj0 : gj < w10.heap.size := block_lt j0.1
  have zl0 : gl < w10.heap.size := block_lt l0.1
  go_wp2_with fail
  clear za0 zb0 zx0 zj0 zl0
  obtain ⟨w11, go, hk, hW, hx, o0, o1⟩ := new2 w10 25 (.int .i64 (kof n)) (.bool false)
  rw [hW, hk]
  have a0 := kept2 hx a0
  have a1 := kept2 hx a1
  have b0 := kept2 hx b0
  have b1 := kept2 hx b1
  have x0 := kept2 hx x0
  have x1 := kept2 hx x1
  have j0 := kept2 hx j0
  have j1 := kept2 hx j1
  have l0 := kept2 hx l0
  have l1 := kept2 hx l1
  have E := E.trans hx
  clear hx hW hk
  go_wp2_with fail
  refine (rHas_c (kop op (nrm b) (nrm c)) (nop op n m) (s || t) _).mono ?_
  rintro e w12 ⟨rfl, hx⟩
  have a0 := kept2 hx a0
  have a1 := kept2 hx a1
  have b0 := kept2 hx b0
  have b1 := kept2 hx b1
  have x0 := kept2 hx x0
  have x1 := kept2 hx x1
  have j0 := kept2 hx j0
  have j1 := kept2 hx j1
  have l0 := kept2 hx l0
  have l1 := kept2 hx l1
  have o0 := kept2 hx o0
  have o1 := kept2 hx o1
  have E := E.trans hx
  clear hx
  go_wp2_with fail
  refine (rHas_c (max (nrm b) (nrm c)) n (s || t) _).mono ?_
  rintro e w13 ⟨rfl, hx⟩
  have a0 := kept2 hx a0
  have a1 := kept2 hx a1
  have b0 := kept2 hx b0
  have b1 := kept2 hx b1
  have x0 := kept2 hx x0
  have x1 := kept2 hx x1
  have j0 := kept2 hx j0
  have j1 := kept2 hx j1
  have l0 := kept2 hx l0
  have l1 := kept2 hx l1
  have o0 := kept2 hx o0
  have o1 := kept2 hx o1
  have E := E.trans hx
  clear hx
  go_wp2_with fail
  refine (rHas_c (max (nrm b) (nrm c)) m (s || t) _).mono ?_
  rintro e w14 ⟨rfl, hx⟩
  have a0 := kept2 hx a0
  have a1 := kept2 hx a1
  have b0 := kept2 hx b0
  have b1 := kept2 hx b1
  have x0 := kept2 hx x0
  have x1 := kept2 hx x1
  have j0 := kept2 hx j0
  have j1 := kept2 hx j1
  have l0 := kept2 hx l0
  have l1 := kept2 hx l1
  have o0 := kept2 hx o0
  have o1 := kept2 hx o1
  have E := E.trans hx
  clear hx
  go_wp2_with fail
  refine (rHas_c (kof n) n false _).mono ?_
  rintro e w15 ⟨rfl, hx⟩
  have a0 := kept2 hx a0
  have a1 := kept2 hx a1
  have b0 := kept2 hx b0
  have b1 := kept2 hx b1
  have x0 := kept2 hx x0
  have x1 := kept2 hx x1
  have j0 := kept2 hx j0
  have j1 := kept2 hx j1
  have l0 := kept2 hx l0
  have l1 := kept2 hx l1
  have o0 := kept2 hx o0
  have o1 := kept2 hx o1
  have E := E.trans hx
  clear hx
  cases s <;> cases t
  all_goals
    go_wp2_with fail
    refine (below_c m n _ m0 m1 n0 n1).mono ?_
    rintro e w' ⟨rfl, rfl⟩
    cases hnb : nbelow m n
    · have hL := HL.out hnb
      clear hnb
      go_wp2_with fail
      refine (rHas_c (min (nrm b) (nrm c)) n _ _).mono ?_
      rintro e w' ⟨rfl, hx⟩
      go_wp2
      go_ret
      exact ⟨ret_b (by simp), E.trans hx⟩
    · clear hnb
      go_wp2
      go_ret
      exact ⟨rfl, E⟩

theorem knownHolds_walk (op : Int) (_w0 : (Lit.int .i64 op).wf = true) (b : Int) (s : Bool) (_w1 : (Lit.int .i64 b).wf = true) (c : Int) (t : Bool) (_w2 : (Lit.int .i64 c).wf = true) (n : Int) (wn : (Lit.int .i64 n).wf = true) (m : Int) (wm : (Lit.int .i64 m).wf = true) (w : World) :
    Calls Try.prog 7 #[.int .i64 op, .agg #[.int .i64 b, .bool s], .agg #[.int .i64 c, .bool t], .int .i64 n, .int .i64 m] w fun e w' => e = .returned (.bool true) ∧ Ext w w' := by
  obtain ⟨n0, n1⟩ := bd_i64 wn
  obtain ⟨m0, m1⟩ := bd_i64 wm
  cases h1 : khas b n
  · exact holds_no1 op b s c t n m w h1
  cases h2 : khas c m
  · exact holds_no2 op b s c t n m w h1 h2
  · exact holds_yes op b s c t n n0 n1 m m0 m1 w h1 h2
end Go.Proofs.Ytoaapneihcfieaa
