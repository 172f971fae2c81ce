/- known.Op: the walk. -/
import Derived.Test.YtoaapneihcfieaaKnown
namespace Go.Proofs.Ytoaapneihcfieaa
open Go.ChangeShapes Go.WideShapes Go.ChangeAt Go.RowKit

set_option maxHeartbeats 8000000 in
theorem kOp_c (op b c : Int) (s t : Bool) (w : World) :
    Calls Try.prog 22 #[.int .i64 op, .agg #[.int .i64 b, .bool s], .agg #[.int .i64 c, .bool t]] w fun e w' => e = .returned (.agg #[.int .i64 (kop op (nrm b) (nrm c)), .bool (s || t)]) ∧ Ext w w' := by
  obtain ⟨b0, b1⟩ := nrm_bd b
  obtain ⟨c0, c1⟩ := nrm_bd c
  go_enter Try.func22, Try.ntmps22
  go_wp2
  obtain ⟨W, g, hg, hW, hE, p0, p1, p2, p3, p4, p5, _⟩ := three_new w 25 (.int .i64 b) (.bool s) (.int .i64 c) (.bool t) (.int .i64 0) (.bool false)
  rw [hW, hg]
  have hgs : w.heap.size ≤ g := by omega
  clear hW hg
  go_cut [] (fun wx => Normed w wx g b c s t)
  case first =>
    go_region_with (go_at_call 41; refine (norm_c _ _ _).mono ?_; rintro e w1 ⟨rfl, hx⟩; have p0 := kept2 hx p0; have p1 := kept2 hx p1; have p2 := kept2 hx p2; have p3 := kept2 hx p3; have p4 := kept2 hx p4; have p5 := kept2 hx p5)
    all_goals (go_wp2_with fail; go_meet; refine normed hgs ?_ p0 p1 p2 p3 p4 p5)
    all_goals (repeat' first | (with_reducible exact Ext.refl _) | (with_reducible assumption) | (with_reducible refine Ext.drew ?_) | (with_reducible refine Ext.drewN ?_ _) | (with_reducible refine Ext.alloc ?_ _) | (with_reducible refine Ext.setCell ?_ (by first | (simp; done) | (simp; omega) | omega) _) | (with_reducible refine Ext.trans ?_ (by with_reducible assumption)))
  case rest =>
    obtain ⟨hX, q0, q1, q2, q3, q4, q5⟩ := hcut
    have hgx := hX.size
    clear hE p0 p1 p2 p3 p4 p5
    by_cases h : op = 1 ∨ op = 3 ∨ op = 4 ∨ op = 5 ∨ op = 6 ∨ op = 8 ∨ op = 9 ∨ op = 10
    · rcases h with rfl | rfl | rfl | rfl | rfl | rfl | rfl | rfl
      all_goals cases s
      all_goals go_wp2
      all_goals refine bodyPost_ret (results_two (by repeat' first | (with_reducible exact some_of q4) | (with_reducible refine some_set ?_)) (by repeat' first | (with_reducible exact some_of q5) | (with_reducible refine some_set ?_)) rfl _ rfl Try.underlying25 rfl infoKnown) rfl ⟨ret_k (by first | (simp [kop, kopN]; omega) | (simp only [beq_iff_eq, beq_eq_false_iff_ne, ne_eq] at *; simp [kop, kopN]; omega)) rfl, ?_⟩
      all_goals (repeat' first | (with_reducible exact Ext.refl _) | (with_reducible assumption) | (with_reducible refine Ext.drew ?_) | (with_reducible refine Ext.drewN ?_ _) | (with_reducible refine Ext.alloc ?_ _) | (with_reducible refine Ext.setCell ?_ (by first | (simp; done) | (simp; omega) | omega) _) | (with_reducible refine Ext.trans ?_ (by with_reducible assumption)))
    · have Hk := Lib.hid (kopN_other (op := op) (nrm b) (nrm c) (by omega) (by omega) (by omega) (by omega) (by omega) (by omega) (by omega) (by omega))
      have q1 : (op == 1) = false := by rw [beq_eq_false_iff_ne]; omega
      have q3' : (op == 3) = false := by rw [beq_eq_false_iff_ne]; omega
      have q4' : (op == 4) = false := by rw [beq_eq_false_iff_ne]; omega
      have q5' : (op == 5) = false := by rw [beq_eq_false_iff_ne]; omega
      have q6 : (op == 6) = false := by rw [beq_eq_false_iff_ne]; omega
      have q8 : (op == 8) = false := by rw [beq_eq_false_iff_ne]; omega
      have q9 : (op == 9) = false := by rw [beq_eq_false_iff_ne]; omega
      have q10 : (op == 10) = false := by rw [beq_eq_false_iff_ne]; omega
      clear h
      cases s
      all_goals go_wp2
      all_goals refine bodyPost_ret (results_two (by repeat' first | (with_reducible exact some_of q4) | (with_reducible refine some_set ?_)) (by repeat' first | (with_reducible exact some_of q5) | (with_reducible refine some_set ?_)) rfl _ rfl Try.underlying25 rfl infoKnown) rfl ⟨ret_k (by unfold kop; rw [Hk.out]; rfl) rfl, ?_⟩
      all_goals (repeat' first | (with_reducible exact Ext.refl _) | (with_reducible assumption) | (with_reducible refine Ext.drew ?_) | (with_reducible refine Ext.drewN ?_ _) | (with_reducible refine Ext.alloc ?_ _) | (with_reducible refine Ext.setCell ?_ (by first | (simp; done) | (simp; omega) | omega) _) | (with_reducible refine Ext.trans ?_ (by with_reducible assumption)))
end Go.Proofs.Ytoaapneihcfieaa
