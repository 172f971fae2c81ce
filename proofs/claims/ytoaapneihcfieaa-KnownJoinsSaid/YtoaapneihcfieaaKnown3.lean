/- The reference's Of, Op, Join, Less of what is known: walks. -/
import Derived.Test.YtoaapneihcfieaaKnown2
namespace Go.Proofs.Ytoaapneihcfieaa
open Go.ChangeShapes Go.WideShapes Go.ChangeAt Go.RowKit

/-- three blocks of two cells from block g on -/
def Cells6 (w W : World) (g : Nat) (a0 a1 b0 b1 c0 c1 : Value) : Prop :=
  Ext w W ∧ (W.cell? ⟨g, 0, none⟩ = some a0 ∧ W.frozen? ⟨g, 0, none⟩ = false) ∧ (W.cell? ⟨g, 1, none⟩ = some a1 ∧ W.frozen? ⟨g, 1, none⟩ = false) ∧
    (W.cell? ⟨g + 1, 0, none⟩ = some b0 ∧ W.frozen? ⟨g + 1, 0, none⟩ = false) ∧ (W.cell? ⟨g + 1, 1, none⟩ = some b1 ∧ W.frozen? ⟨g + 1, 1, none⟩ = false) ∧
    (W.cell? ⟨g + 1 + 1, 0, none⟩ = some c0 ∧ W.frozen? ⟨g + 1 + 1, 0, none⟩ = false) ∧ (W.cell? ⟨g + 1 + 1, 1, none⟩ = some c1 ∧ W.frozen? ⟨g + 1 + 1, 1, none⟩ = false)
section
variable {w W W' : World} {g : Nat} {a0 a1 b0 b1 c0 c1 : Value}
theorem cells6_new (w : World) (T : TypeId) (a0 a1 b0 b1 c0 c1 : Value) : ∃ W g, w.heap.size = g ∧ ((w.alloc (.cells #[a0, a1] T)).alloc (.cells #[b0, b1] T)).alloc (.cells #[c0, c1] T) = W ∧ Cells6 w W g a0 a1 b0 b1 c0 c1 := by
  obtain ⟨W, g, h1, h2, h3, h4, h5, h6, h7, h8, h9, _⟩ := three_new w T a0 a1 b0 b1 c0 c1
  exact ⟨W, g, h1, h2, h3, h4, h5, h6, h7, h8, h9⟩
theorem Cells6.ext (h : Cells6 w W g a0 a1 b0 b1 c0 c1) (hx : Ext W W') : Cells6 w W' g a0 a1 b0 b1 c0 c1 :=
  ⟨h.1.trans hx, kept2 hx h.2.1, kept2 hx h.2.2.1, kept2 hx h.2.2.2.1, kept2 hx h.2.2.2.2.1, kept2 hx h.2.2.2.2.2.1, kept2 hx h.2.2.2.2.2.2⟩
theorem Cells6.set01 (h : Cells6 w W g a0 a1 b0 b1 c0 c1) (hg : w.heap.size ≤ g) (x y : Value) : Cells6 w ((W.setCell ⟨g, 0, none⟩ x).setCell ⟨g, 1, none⟩ y) g x y b0 b1 c0 c1 :=
  ⟨(h.1.setCell hg _).setCell hg _, kept_set (by simp) (set_same h.2.1), set_same (kept_set (by simp) h.2.2.1), kept_set (by simp) (kept_set (by simp) h.2.2.2.1),
    kept_set (by simp) (kept_set (by simp) h.2.2.2.2.1), kept_set (by simp) (kept_set (by simp) h.2.2.2.2.2.1), kept_set (by simp) (kept_set (by simp) h.2.2.2.2.2.2)⟩
theorem Cells6.set23 (h : Cells6 w W g a0 a1 b0 b1 c0 c1) (hg : w.heap.size ≤ g) (x y : Value) : Cells6 w ((W.setCell ⟨g + 1, 0, none⟩ x).setCell ⟨g + 1, 1, none⟩ y) g a0 a1 x y c0 c1 :=
  ⟨(h.1.setCell (by simp; omega) _).setCell (by simp; omega) _, kept_set (by simp) (kept_set (by simp) h.2.1), kept_set (by simp) (kept_set (by simp) h.2.2.1), kept_set (by simp) (set_same h.2.2.2.1),
    set_same (kept_set (by simp) h.2.2.2.2.1), kept_set (by simp) (kept_set (by simp) h.2.2.2.2.2.1), kept_set (by simp) (kept_set (by simp) h.2.2.2.2.2.2)⟩
theorem some_alloc {p : Addr} {o : Obj} (h : (W.cell? p).isSome = true) : ((W.alloc o).cell? p).isSome = true := by
  obtain ⟨v, hv⟩ := Option.isSome_iff_exists.1 h
  rw [((Ext.refl W).alloc o).kept hv]; rfl
end

set_option maxHeartbeats 1000000 in
theorem upTo_c (n : Int) (w : World) :
    Calls Try.prog 50 #[.int .i64 n] w fun e w' => e = .returned (.int .i64 (if 16 < n then 17 else n)) ∧ w = w' := by
  have Hi := Lib.hid (rfl : (if 16 < n then 17 else n) = (if 16 < n then (17 : Int) else n))
  by_cases h : 16 < n
  · rw [if_pos h]
    go_enter Try.func50, Try.ntmps50
    go_wp2
    go_ret
    exact ⟨rfl, rfl⟩
  · rw [if_neg h]
    go_enter Try.func50, Try.ntmps50
    go_wp2
    go_ret
    exact ⟨rfl, rfl⟩

set_option maxHeartbeats 2000000 in
theorem rJoin_c (b c : Int) (s t : Bool) (w : World) :
    Calls Try.prog 26 #[.agg #[.int .i64 b, .bool s], .agg #[.int .i64 c, .bool t]] w fun e w' => e = .returned (.agg #[.int .i64 (max (nrm b) (nrm c)), .bool (s || t)]) ∧ Ext w w' := by
  go_enter Try.func26, Try.ntmps26
  go_wp2_with fail
  obtain ⟨W, g, hg, hW, H⟩ := cells6_new w 25 (.int .i64 b) (.bool s) (.int .i64 c) (.bool t) (.int .i64 0) (.bool false)
  rw [hW, hg]
  have hgs : w.heap.size ≤ g := by omega
  clear hW hg
  refine (read_c _ _ _).mono ?_
  rintro e w1 ⟨rfl, hx⟩
  have H := H.ext hx
  clear hx
  obtain ⟨hX, q0, q1, q2, q3, q4, q5⟩ := id H
  go_wp2_with fail
  have H := H.set01 hgs (.int .i64 (nrm b)) (.bool s)
  clear hX q0 q1 q2 q3 q4 q5
  generalize (w1.setCell ⟨g, 0, none⟩ (.int .i64 (nrm b))).setCell ⟨g, 1, none⟩ (.bool s) = w2 at *
  refine (read_c _ _ _).mono ?_
  rintro e w3 ⟨rfl, hx⟩
  have H := H.ext hx
  clear hx
  have H2 := H.set23 hgs (.int .i64 (nrm c)) (.bool t)
  obtain ⟨hX, q0, q1, q2, q3, q4, q5⟩ := H
  clear H2
  cases s
  all_goals go_wp2
  all_goals refine bodyPost_ret (results_two (by repeat' first | (with_reducible exact some_of q4) | (with_reducible refine some_set ?_) | (with_reducible refine some_alloc ?_)) (by repeat' first | (with_reducible exact some_of q5) | (with_reducible refine some_set ?_) | (with_reducible refine some_alloc ?_)) rfl _ rfl Try.underlying25 rfl infoKnown) rfl ⟨ret_k (by omega) rfl, ?_⟩
  all_goals (repeat' first | (with_reducible exact Ext.refl _) | (with_reducible assumption) | (with_reducible refine Ext.drew ?_) | (with_reducible refine Ext.drewN ?_ _) | (with_reducible refine Ext.alloc ?_ _) | (with_reducible refine Ext.setCell ?_ (by first | (simp; done) | (simp; omega) | omega) _) | (with_reducible refine Ext.trans ?_ (by with_reducible assumption)))

set_option maxHeartbeats 2000000 in
theorem rLess_c (b c : Int) (s t : Bool) (w : World) :
    Calls Try.prog 27 #[.agg #[.int .i64 b, .bool s], .agg #[.int .i64 c, .bool t]] w fun e w' => e = .returned (.agg #[.int .i64 (min (nrm b) (nrm c)), .bool s]) ∧ Ext w w' := by
  go_enter Try.func27, Try.ntmps27
  go_wp2_with fail
  obtain ⟨W, g, hg, hW, H⟩ := cells6_new w 25 (.int .i64 b) (.bool s) (.int .i64 c) (.bool t) (.int .i64 0) (.bool false)
  rw [hW, hg]
  have hgs : w.heap.size ≤ g := by omega
  clear hW hg
  refine (read_c _ _ _).mono ?_
  rintro e w1 ⟨rfl, hx⟩
  have H := H.ext hx
  clear hx
  obtain ⟨hX, q0, q1, q2, q3, q4, q5⟩ := id H
  go_wp2_with fail
  have H := H.set01 hgs (.int .i64 (nrm b)) (.bool s)
  clear hX q0 q1 q2 q3 q4 q5
  generalize (w1.setCell ⟨g, 0, none⟩ (.int .i64 (nrm b))).setCell ⟨g, 1, none⟩ (.bool s) = w2 at *
  refine (read_c _ _ _).mono ?_
  rintro e w3 ⟨rfl, hx⟩
  have H := H.ext hx
  clear hx
  have H2 := H.set23 hgs (.int .i64 (nrm c)) (.bool t)
  obtain ⟨hX, q0, q1, q2, q3, q4, q5⟩ := H
  clear H2
  go_wp2
  all_goals refine bodyPost_ret (results_two (by repeat' first | (with_reducible exact some_of q4) | (with_reducible refine some_set ?_) | (with_reducible refine some_alloc ?_)) (by repeat' first | (with_reducible exact some_of q5) | (with_reducible refine some_set ?_) | (with_reducible refine some_alloc ?_)) rfl _ rfl Try.underlying25 rfl infoKnown) rfl ⟨ret_k (by omega) rfl, ?_⟩
  all_goals (repeat' first | (with_reducible exact Ext.refl _) | (with_reducible assumption) | (with_reducible refine Ext.drew ?_) | (with_reducible refine Ext.drewN ?_ _) | (with_reducible refine Ext.alloc ?_ _) | (with_reducible refine Ext.setCell ?_ (by first | (simp; done) | (simp; omega) | omega) _) | (with_reducible refine Ext.trans ?_ (by with_reducible assumption)))
end Go.Proofs.Ytoaapneihcfieaa
