/- The reference's Op and Of of what is known: walks. -/
import Derived.Test.YtoaapneihcfieaaKnown3
import Derived.Deep.DeepCutAuto
namespace Go.Proofs.Ytoaapneihcfieaa
open Go.ChangeShapes Go.WideShapes Go.ChangeAt Go.RowKit

theorem cells8_new {w W : World} {g : Nat} {a0 a1 b0 b1 c0 c1 : Value} (h : Cells6 w W g a0 a1 b0 b1 c0 c1) (T : TypeId) (x y : Value) : ∃ W' k, W.heap.size = k ∧ W.alloc (.cells #[x, y] T) = W' ∧ g + 1 + 1 < k ∧ Cells6 w W' g a0 a1 b0 b1 c0 c1 ∧
    (W'.cell? ⟨k, 0, none⟩ = some x ∧ W'.frozen? ⟨k, 0, none⟩ = false) ∧ (W'.cell? ⟨k, 1, none⟩ = some y ∧ W'.frozen? ⟨k, 1, none⟩ = false) :=
  ⟨_, _, rfl, rfl, block_lt h.2.2.2.2.2.1.1, h.ext ((Ext.refl _).alloc _), (one_new W T x y).1, (one_new W T x y).2⟩

set_option maxHeartbeats 8000000 in
theorem rKop_c (op b c : Int) (s t : Bool) (w : World) :
    Calls Try.prog 25 #[.int .i64 op, .agg #[.int .i64 b, .bool s], .agg #[.int .i64 c, .bool t]] w fun e w' => e = .returned (.agg #[.int .i64 (kop op (nrm b) (nrm c)), .bool (s || t)]) ∧ Ext w w' := by
  obtain ⟨b0, b1⟩ := nrm_bd b
  obtain ⟨c0, c1⟩ := nrm_bd c
  go_enter Try.func25, Try.ntmps25
  go_wp2_with fail
  obtain ⟨W, g, hg, hW, H⟩ := cells6_new w 25 (.int .i64 b) (.bool s) (.int .i64 c) (.bool t) (.int .i64 0) (.bool false)
  rw [hW, hg]
  have hgs : w.heap.size ≤ g := by omega
  clear hW hg
  refine (read_c _ _ _).mono ?_
  rintro e w1 ⟨rfl, hx⟩
  have H := H.ext hx
  clear hx
  obtain ⟨hX, q0, q1, q2, q3, q4, q5⟩ := id H
  go_wp2_with fail
  have H := H.set01 hgs (.int .i64 (nrm b)) (.bool s)
  clear hX q0 q1 q2 q3 q4 q5
  generalize (w1.setCell ⟨g, 0, none⟩ (.int .i64 (nrm b))).setCell ⟨g, 1, none⟩ (.bool s) = w2 at *
  refine (read_c _ _ _).mono ?_
  rintro e w3 ⟨rfl, hx⟩
  have H := H.ext hx
  clear hx
  have H2 := H.set23 hgs (.int .i64 (nrm c)) (.bool t)
  obtain ⟨hX, q0, q1, q2, q3, q4, q5⟩ := H
  go_upto_region 3 with fail
  clear hX q0 q1 q2 q3 q4 q5
  generalize (w3.setCell ⟨g + 1, 0, none⟩ (.int .i64 (nrm c))).setCell ⟨g + 1, 1, none⟩ (.bool t) = w4 at *
  obtain ⟨hX, q0, q1, q2, q3, q4, q5⟩ := id H2
  have hlt : g + 1 + 1 < w4.heap.size := block_lt q4.1
  have hlt1 : g + 1 < w4.heap.size := by omega
  have hlt0 : g < w4.heap.size := by omega
  cases s
  all_goals
    go_upto_region 4 with fail
    obtain ⟨w5, k, hk, hW, hgk, H, k0, k1⟩ := cells8_new H2 25 (.int .i64 17) _
    rw [hW, hk]
    clear hW hk H2 hX q0 q1 q2 q3 q4 q5 hlt hlt1 hlt0
    obtain ⟨hX, q0, q1, q2, q3, q4, q5⟩ := H
    have hgz := hX.size
    go_upto_if 29 with fail
    go_cut [8, 9] (fun s8 s9 wx => s8 = .int .i64 (max (nrm b) (nrm c)) ∧ s9 = .int .i64 (min (nrm b) (nrm c)) ∧ wx = w5)
    case first =>
      go_wp2
      all_goals
        go_meet
        exact ⟨congrArg (Value.int IntKind.i64) (by omega), congrArg (Value.int IntKind.i64) (by omega), rfl⟩
    case rest =>
      obtain ⟨rfl, rfl, rfl⟩ := hcut
      by_cases h : op = 1 ∨ op = 3 ∨ op = 4 ∨ op = 5 ∨ op = 6 ∨ op = 8 ∨ op = 9 ∨ op = 10
      · rcases h with rfl | rfl | rfl | rfl | rfl | rfl | rfl | rfl
        all_goals go_wp2_with (go_at_call 50; refine (upTo_c _ _).mono ?_; rintro e w' ⟨rfl, rfl⟩)
        all_goals refine bodyPost_ret (results_two (by repeat' first | (with_reducible exact some_of q4) | (with_reducible refine some_set ?_)) (by repeat' first | (with_reducible exact some_of q5) | (with_reducible refine some_set ?_)) rfl _ rfl Try.underlying25 rfl infoKnown) rfl ⟨ret_k (by first | (simp [kop, kopN]; omega) | (simp only [beq_iff_eq, beq_eq_false_iff_ne, ne_eq] at *; simp [kop, kopN]; omega) | (simp only [beq_iff_eq, beq_eq_false_iff_ne, ne_eq] at *; simp [kop, kopN]; split <;> omega)) rfl, ?_⟩
        all_goals (repeat' first | (with_reducible exact Ext.refl _) | (with_reducible assumption) | (with_reducible refine Ext.drew ?_) | (with_reducible refine Ext.drewN ?_ _) | (with_reducible refine Ext.alloc ?_ _) | (with_reducible refine Ext.setCell ?_ (by first | (simp; done) | (simp; omega) | omega) _) | (with_reducible refine Ext.trans ?_ (by with_reducible assumption)))
      · have Hk := Lib.hid (kopN_other (op := op) (nrm b) (nrm c) (by omega) (by omega) (by omega) (by omega) (by omega) (by omega) (by omega) (by omega))
        have e1 : (op == 1) = false := by rw [beq_eq_false_iff_ne]; omega
        have e3 : (op == 3) = false := by rw [beq_eq_false_iff_ne]; omega
        have e4 : (op == 4) = false := by rw [beq_eq_false_iff_ne]; omega
        have e5 : (op == 5) = false := by rw [beq_eq_false_iff_ne]; omega
        have e6 : (op == 6) = false := by rw [beq_eq_false_iff_ne]; omega
        have e8 : (op == 8) = false := by rw [beq_eq_false_iff_ne]; omega
        have e9 : (op == 9) = false := by rw [beq_eq_false_iff_ne]; omega
        have e10 : (op == 10) = false := by rw [beq_eq_false_iff_ne]; omega
        clear h
        go_wp2
        refine bodyPost_ret (results_two (by repeat' first | (with_reducible exact some_of q4) | (with_reducible refine some_set ?_)) (by repeat' first | (with_reducible exact some_of q5) | (with_reducible refine some_set ?_)) rfl _ rfl Try.underlying25 rfl infoKnown) rfl ⟨ret_k (by unfold kop; rw [Hk.out]; rfl) rfl, ?_⟩
        (repeat' first | (with_reducible exact Ext.refl _) | (with_reducible assumption) | (with_reducible refine Ext.drew ?_) | (with_reducible refine Ext.drewN ?_ _) | (with_reducible refine Ext.alloc ?_ _) | (with_reducible refine Ext.setCell ?_ (by first | (simp; done) | (simp; omega) | omega) _) | (with_reducible refine Ext.trans ?_ (by with_reducible assumption)))

set_option maxHeartbeats 1000000 in
theorem rOf_c (n : Int) (w : World) :
    Calls Try.prog 28 #[.int .i64 n] w fun e w' => e = .returned (.agg #[.int .i64 (kof n), .bool false]) ∧ Ext w w' := by
  obtain ⟨k0, k1⟩ := kof_bd n
  have Hf : Hid (∀ k : Nat, k ≤ 16 → khas k n = decide (kof n ≤ k)) := fun k hk => kof_fits n k hk
  go_enter Try.func28, Try.ntmps28
  go_wp2
  go_loopw [3] (fun i wr => ∃ k : Nat, k ≤ 17 ∧ i = .int .i64 k ∧ (k : Int) ≤ kof n ∧ Ext w wr ∧ Blk wr w.heap.size 25 #[.int .i64 0, .bool false]) (fun i _ => 17 - (intOf i).toNat)
  case atStart => exact ⟨0, by omega, rfl, by omega, (Ext.refl _).alloc _, Blk.new _ _ _⟩
  case round =>
    obtain ⟨k, hk, rfl, hle, hX, hB⟩ := hrel
    have q4 : wr.cell? ⟨w.heap.size, 0, none⟩ = some (.int .i64 0) ∧ wr.frozen? ⟨w.heap.size, 0, none⟩ = false := ⟨by rw [hB.cell]; rfl, hB.frozen 0⟩
    have q5 : wr.cell? ⟨w.heap.size, 1, none⟩ = some (.bool false) ∧ wr.frozen? ⟨w.heap.size, 1, none⟩ = false := ⟨by rw [hB.cell]; rfl, hB.frozen 1⟩
    by_cases hlt : k < 17
    · have hfk := Hf.out k (by omega)
      have HB := Lib.hid hB
      clear hB
      by_cases hh : kof n ≤ k
      · have he : kof n = k := by omega
        have He := Lib.hid he
        have hfk' : khas k n = true := by rw [hfk]; simp; omega
        clear hfk he hh
        go_wp2_with fail
        refine (rHas_c _ _ _ _).mono ?_
        rintro e w1 ⟨rfl, hx⟩
        rw [hfk']
        have q4 := kept2 hx q4
        have q5 := kept2 hx q5
        go_wp2
        refine bodyPost_ret (results_two (by repeat' first | (with_reducible exact some_of q4) | (with_reducible refine some_set ?_) | (with_reducible refine some_alloc ?_)) (by repeat' first | (with_reducible exact some_of q5) | (with_reducible refine some_set ?_) | (with_reducible refine some_alloc ?_)) rfl _ rfl Try.underlying25 rfl infoKnown) rfl ⟨ret_k He.out.symm rfl, ?_⟩
        (repeat' first | (with_reducible exact Ext.refl _) | (with_reducible assumption) | (with_reducible refine Ext.drew ?_) | (with_reducible refine Ext.drewN ?_ _) | (with_reducible refine Ext.alloc ?_ _) | (with_reducible refine Ext.setCell ?_ (by first | (simp; done) | (simp; omega) | omega) _) | (with_reducible refine Ext.trans ?_ (by with_reducible assumption)))
      · have hfk' : khas k n = false := by rw [hfk]; simp; omega
        clear hfk
        go_wp2_with fail
        refine (rHas_c _ _ _ _).mono ?_
        rintro e w1 ⟨rfl, hx⟩
        rw [hfk']
        go_wp2
        go_roundw
        case rel => exact ⟨k + 1, by omega, by go_num, by omega, hX.trans hx, HB.out.ext hx⟩
        case measure => first | (simp [intOf]; done) | (simp [intOf]; omega)
    · obtain rfl : k = 17 := by omega
      have He : Hid (kof n = 17) := by show _ = _; omega
      clear hlt hle
      go_wp2
      refine bodyPost_ret (results_two (by repeat' first | (with_reducible exact some_of q4) | (with_reducible refine some_set ?_) | (with_reducible refine some_alloc ?_)) (by repeat' first | (with_reducible exact some_of q5) | (with_reducible refine some_set ?_) | (with_reducible refine some_alloc ?_)) rfl _ rfl Try.underlying25 rfl infoKnown) rfl ⟨ret_k He.out.symm rfl, ?_⟩
      (repeat' first | (with_reducible exact Ext.refl _) | (with_reducible assumption) | (with_reducible refine Ext.drew ?_) | (with_reducible refine Ext.drewN ?_ _) | (with_reducible refine Ext.alloc ?_ _) | (with_reducible refine Ext.setCell ?_ (by first | (simp; done) | (simp; omega) | omega) _) | (with_reducible refine Ext.trans ?_ (by with_reducible assumption)))
end Go.Proofs.Ytoaapneihcfieaa
