/- The walk of KnownJoins. -/
import Derived.Test.YtoaapneihcfieaaKnownTells
import Derived.Test.YtoaapneihcfieaaRegion
namespace Go.Proofs.Ytoaapneihcfieaa
open Go.ChangeShapes Go.WideShapes Go.ChangeAt Go.RowKit

/-- a block of two cells, behind a pointer -/
def At2 (W : World) (v : Value) (x : Int) (y : Bool) : Prop := ∃ k : Nat, v = .pointer (some ⟨k, 0, none⟩) ∧ (W.cell? ⟨k, 0, none⟩ = some (.int .i64 x) ∧ W.frozen? ⟨k, 0, none⟩ = false) ∧ (W.cell? ⟨k, 1, none⟩ = some (.bool y) ∧ W.frozen? ⟨k, 1, none⟩ = false)
theorem Cells6.setk {w W : World} {g k : Nat} {a0 a1 b0 b1 c0 c1 : Value} (h : Cells6 w W g a0 a1 b0 b1 c0 c1) (hg : w.heap.size ≤ g) (hk : g + 1 + 1 < k) (x y : Value) : Cells6 w ((W.setCell ⟨k, 0, none⟩ x).setCell ⟨k, 1, none⟩ y) g a0 a1 b0 b1 c0 c1 :=
  ⟨(h.1.setCell (by simp; omega) _).setCell (by simp; omega) _, kept_set (by simp <;> omega) (kept_set (by simp <;> omega) h.2.1), kept_set (by simp <;> omega) (kept_set (by simp <;> omega) h.2.2.1), kept_set (by simp <;> omega) (kept_set (by simp <;> omega) h.2.2.2.1),
    kept_set (by simp <;> omega) (kept_set (by simp <;> omega) h.2.2.2.2.1), kept_set (by simp <;> omega) (kept_set (by simp <;> omega) h.2.2.2.2.2.1), kept_set (by simp <;> omega) (kept_set (by simp <;> omega) h.2.2.2.2.2.2)⟩
theorem nrm_max (b c : Int) : nrm (max (nrm b) (nrm c)) = max (nrm b) (nrm c) := by
  have := nrm_bd b
  have := nrm_bd c
  exact nrm_id (by omega) (by omega)
theorem nrm_min (b c : Int) : nrm (min (nrm b) (nrm c)) = min (nrm b) (nrm c) := by
  have := nrm_bd b
  have := nrm_bd c
  exact nrm_id (by omega) (by omega)
theorem known_ne (x : Int) (y : Bool) (w : World) : (binOp .neq 25 (.agg #[.int .i64 x, .bool y]) (.agg #[.int .i64 x, .bool y])).run Try.prog w = .ok (.bool false) w := by
  go_simp
theorem at2_set {W : World} {k : Nat} {x : Int} {y : Bool} {a0 a1 : Value} (c0 : W.cell? ⟨k, 0, none⟩ = some a0 ∧ W.frozen? ⟨k, 0, none⟩ = false) (c1 : W.cell? ⟨k, 1, none⟩ = some a1 ∧ W.frozen? ⟨k, 1, none⟩ = false) :
    At2 ((W.setCell ⟨k, 0, none⟩ (.int .i64 x)).setCell ⟨k, 1, none⟩ (.bool y)) (.pointer (some ⟨k, 0, none⟩)) x y :=
  ⟨k, rfl, kept_set (by simp) (set_same c0), set_same (kept_set (by simp) c1)⟩

section
variable (b c d : Int) (s t u : Bool) (W : World)
theorem jn_zc : Calls Try.prog 15 #[.agg #[.int .i64 (max (nrm b) (nrm c)), .bool (s || t)], .agg #[.int .i64 (d), .bool (u)]] W fun e w' => e = .returned (.agg #[.int .i64 (max (nrm b) (max (nrm c) (nrm d))), .bool (s || t || u)]) ∧ Ext W w' :=
  (join_c _ _ _ _ W).mono fun _ _ ⟨he, hx⟩ => ⟨he.trans (ret_k (by rw [nrm_max]; omega) rfl), hx⟩
theorem jn_bc : Calls Try.prog 15 #[.agg #[.int .i64 (b), .bool (s)], .agg #[.int .i64 (max (nrm c) (nrm d)), .bool (t || u)]] W fun e w' => e = .returned (.agg #[.int .i64 (max (nrm b) (max (nrm c) (nrm d))), .bool (s || t || u)]) ∧ Ext W w' :=
  (join_c _ _ _ _ W).mono fun _ _ ⟨he, hx⟩ => ⟨he.trans (ret_k (by rw [nrm_max]) (by cases s <;> cases t <;> cases u <;> rfl)), hx⟩
theorem jn_ba : Calls Try.prog 15 #[.agg #[.int .i64 (c), .bool (t)], .agg #[.int .i64 (b), .bool (s)]] W fun e w' => e = .returned (.agg #[.int .i64 (max (nrm b) (nrm c)), .bool (s || t)]) ∧ Ext W w' :=
  (join_c _ _ _ _ W).mono fun _ _ ⟨he, hx⟩ => ⟨he.trans (ret_k (by omega) (by cases s <;> cases t <;> rfl)), hx⟩
theorem jn_zz : Calls Try.prog 15 #[.agg #[.int .i64 (max (nrm b) (nrm c)), .bool (s || t)], .agg #[.int .i64 (max (nrm b) (nrm c)), .bool (s || t)]] W fun e w' => e = .returned (.agg #[.int .i64 (max (nrm b) (nrm c)), .bool (s || t)]) ∧ Ext W w' :=
  (join_c _ _ _ _ W).mono fun _ _ ⟨he, hx⟩ => ⟨he.trans (ret_k (by rw [nrm_max]; omega) (by cases s <;> cases t <;> rfl)), hx⟩
theorem jn_za : Calls Try.prog 15 #[.agg #[.int .i64 (max (nrm b) (nrm c)), .bool (s || t)], .agg #[.int .i64 (b), .bool (s)]] W fun e w' => e = .returned (.agg #[.int .i64 (max (nrm b) (nrm c)), .bool (s || t)]) ∧ Ext W w' :=
  (join_c _ _ _ _ W).mono fun _ _ ⟨he, hx⟩ => ⟨he.trans (ret_k (by rw [nrm_max]; omega) (by cases s <;> cases t <;> rfl)), hx⟩
theorem jn_la : Calls Try.prog 15 #[.agg #[.int .i64 (min (nrm b) (nrm c)), .bool (s)], .agg #[.int .i64 (b), .bool (s)]] W fun e w' => e = .returned (.agg #[.int .i64 (nrm b), .bool (s)]) ∧ Ext W w' :=
  (join_c _ _ _ _ W).mono fun _ _ ⟨he, hx⟩ => ⟨he.trans (ret_k (by rw [nrm_min]; omega) (by cases s <;> rfl)), hx⟩
theorem jn_aa : Calls Try.prog 15 #[.agg #[.int .i64 (b), .bool (s)], .agg #[.int .i64 (b), .bool (s)]] W fun e w' => e = .returned (.agg #[.int .i64 (nrm b), .bool (s)]) ∧ Ext W w' :=
  (join_c _ _ _ _ W).mono fun _ _ ⟨he, hx⟩ => ⟨he.trans (ret_k (by omega) (by cases s <;> rfl)), hx⟩
end
theorem kof_five : kof 5 = 3 := by decide +kernel

set_option maxHeartbeats 8000000 in
theorem knownJoins_walk (b : Int) (s : Bool) (_w1 : (Lit.int .i64 b).wf = true) (c : Int) (t : Bool) (_w2 : (Lit.int .i64 c).wf = true) (d : Int) (u : Bool) (_w3 : (Lit.int .i64 d).wf = true) (w : World) :
    Calls Try.prog 4 #[.agg #[.int .i64 b, .bool s], .agg #[.int .i64 c, .bool t], .agg #[.int .i64 d, .bool u]] w fun e w' => e = .returned (.bool true) ∧ Ext w w' := by
  go_enter Try.func4, Try.ntmps4
  go_upto_region 1 with fail
  obtain ⟨w0, g, hg, hW, H⟩ := cells6_new w 25 (.int .i64 b) (.bool s) (.int .i64 c) (.bool t) (.int .i64 d) (.bool u)
  rw [hW, hg]
  have hgs : w.heap.size ≤ g := by omega
  clear hW hg
  have hlt := block_lt H.2.2.2.2.2.1.1
  go_cut [7] (fun s7 wx => Cells6 w wx g (.int .i64 b) (.bool s) (.int .i64 c) (.bool t) (.int .i64 d) (.bool u) ∧ At2 wx s7 (max (nrm b) (max (nrm c) (nrm d))) (s || t || u))
  case first =>
    obtain ⟨E, p0, p1, p2, p3, p4, p5⟩ := id H
    have kp0 : ∀ W, Ext w0 W → W.cell? ⟨g, 0, none⟩ = some (.int .i64 b) := fun _ h => h.kept p0.1
    have kp1 : ∀ W, Ext w0 W → W.cell? ⟨g, 1, none⟩ = some (.bool s) := fun _ h => h.kept p1.1
    have kp2 : ∀ W, Ext w0 W → W.cell? ⟨g + 1, 0, none⟩ = some (.int .i64 c) := fun _ h => h.kept p2.1
    have kp3 : ∀ W, Ext w0 W → W.cell? ⟨g + 1, 1, none⟩ = some (.bool t) := fun _ h => h.kept p3.1
    have kp4 : ∀ W, Ext w0 W → W.cell? ⟨g + 1 + 1, 0, none⟩ = some (.int .i64 d) := fun _ h => h.kept p4.1
    have kp5 : ∀ W, Ext w0 W → W.cell? ⟨g + 1 + 1, 1, none⟩ = some (.bool u) := fun _ h => h.kept p5.1
    refine region_fresh 6 5 (some 7) (by decide) rfl (by kernel_rfl) (by kernel_rfl) (fun k => .pointer (some ⟨k, 0, none⟩)) 25 #[.int .i64 0, .bool false] ?_
    simp only [List.take_succ_cons, List.take_zero, List.drop_succ_cons, List.drop_zero]
    repeat (first | (refine calm_fresh ?_ ?_ (fun wc hE => ?_) ?_; (decide); rfl; (focus (go_simp; done)); go_simp) | (refine calm_value ?_ ?_ ?_; (decide); (first | rfl | (focus (go_simp; done))); apply Exists.intro; refine ⟨fun wc hE => ?_, ?_⟩; (go_simp; exact rfl); go_simp) | (refine calm_call ?_ ?_ ?_; (decide); (first | rfl | (focus (go_simp; done))); apply Exists.intro; refine ⟨fun wc hE => ?_, ?_⟩; (go_simp; (first | (with_reducible exact calm_enter (jn_zc b c d s t u _)) | (with_reducible exact calm_enter (join_c _ _ _ _ _)))); go_simp) | (refine calm_skip ?_ ?_ ?_; (decide); (focus (go_simp; done)); go_simp))
    refine calm_nil ?_
    intro k wx hk hB hE
    have c0 : wx.cell? ⟨k, 0, none⟩ = some (.int .i64 0) ∧ wx.frozen? ⟨k, 0, none⟩ = false := ⟨by rw [hB.cell]; rfl, hB.frozen 0⟩
    have c1 : wx.cell? ⟨k, 1, none⟩ = some (.bool false) ∧ wx.frozen? ⟨k, 1, none⟩ = false := ⟨by rw [hB.cell]; rfl, hB.frozen 1⟩
    have H := H.ext hE
    clear kp0 kp1 kp2 kp3 kp4 kp5
    go_wp2
    go_meet
    exact ⟨H.setk hgs (by omega) _ _, at2_set c0 c1⟩
  case rest =>
  obtain ⟨H, kx, rfl, x0, x1⟩ := hcut
  clear hlt
  have hlt := block_lt H.2.2.2.2.2.1.1
  have hlx : kx < wc.heap.size := block_lt x0.1
  go_upto_region 2 with fail
  go_cut [8] (fun s8 wx => Cells6 w wx g (.int .i64 b) (.bool s) (.int .i64 c) (.bool t) (.int .i64 d) (.bool u) ∧ (wx.cell? ⟨kx, 0, none⟩ = some (.int .i64 (max (nrm b) (max (nrm c) (nrm d)))) ∧ wx.frozen? ⟨kx, 0, none⟩ = false) ∧ (wx.cell? ⟨kx, 1, none⟩ = some (.bool (s || t || u)) ∧ wx.frozen? ⟨kx, 1, none⟩ = false) ∧ At2 wx s8 (max (nrm b) (max (nrm c) (nrm d))) (s || t || u))
  case first =>
    obtain ⟨E, p0, p1, p2, p3, p4, p5⟩ := id H
    have kp0 : ∀ W, Ext wc W → W.cell? ⟨g, 0, none⟩ = some (.int .i64 b) := fun _ h => h.kept p0.1
    have kp1 : ∀ W, Ext wc W → W.cell? ⟨g, 1, none⟩ = some (.bool s) := fun _ h => h.kept p1.1
    have kp2 : ∀ W, Ext wc W → W.cell? ⟨g + 1, 0, none⟩ = some (.int .i64 c) := fun _ h => h.kept p2.1
    have kp3 : ∀ W, Ext wc W → W.cell? ⟨g + 1, 1, none⟩ = some (.bool t) := fun _ h => h.kept p3.1
    have kp4 : ∀ W, Ext wc W → W.cell? ⟨g + 1 + 1, 0, none⟩ = some (.int .i64 d) := fun _ h => h.kept p4.1
    have kp5 : ∀ W, Ext wc W → W.cell? ⟨g + 1 + 1, 1, none⟩ = some (.bool u) := fun _ h => h.kept p5.1
    refine region_fresh 6 5 (some 8) (by decide) rfl (by kernel_rfl) (by kernel_rfl) (fun k => .pointer (some ⟨k, 0, none⟩)) 25 #[.int .i64 0, .bool false] ?_
    simp only [List.take_succ_cons, List.take_zero, List.drop_succ_cons, List.drop_zero]
    repeat (first | (refine calm_fresh ?_ ?_ (fun wc hE => ?_) ?_; (decide); rfl; (focus (go_simp; done)); go_simp) | (refine calm_value ?_ ?_ ?_; (decide); (first | rfl | (focus (go_simp; done))); apply Exists.intro; refine ⟨fun wc hE => ?_, ?_⟩; (go_simp; exact rfl); go_simp) | (refine calm_call ?_ ?_ ?_; (decide); (first | rfl | (focus (go_simp; done))); apply Exists.intro; refine ⟨fun wc hE => ?_, ?_⟩; (go_simp; (first | (with_reducible exact calm_enter (jn_bc b c d s t u _)) | (with_reducible exact calm_enter (join_c _ _ _ _ _)))); go_simp) | (refine calm_skip ?_ ?_ ?_; (decide); (focus (go_simp; done)); go_simp))
    refine calm_nil ?_
    intro k wx hk hB hE
    have c0 : wx.cell? ⟨k, 0, none⟩ = some (.int .i64 0) ∧ wx.frozen? ⟨k, 0, none⟩ = false := ⟨by rw [hB.cell]; rfl, hB.frozen 0⟩
    have c1 : wx.cell? ⟨k, 1, none⟩ = some (.bool false) ∧ wx.frozen? ⟨k, 1, none⟩ = false := ⟨by rw [hB.cell]; rfl, hB.frozen 1⟩
    have H := H.ext hE
    clear kp0 kp1 kp2 kp3 kp4 kp5
    have x0 := kept2 hE x0
    have x1 := kept2 hE x1
    go_wp2
    go_meet
    exact ⟨H.setk hgs (by omega) _ _, kept_set (by simp <;> omega) (kept_set (by simp <;> omega) x0), kept_set (by simp <;> omega) (kept_set (by simp <;> omega) x1), at2_set c0 c1⟩
  case rest =>
  obtain ⟨H, x0, x1, ky, rfl, y0, y1⟩ := hcut
  clear hlt hlx
  obtain ⟨E, p0, p1, p2, p3, p4, p5⟩ := id H
  go_wp2_with fail
  refine (join_c b c s t _).mono ?_
  rintro e w3 ⟨rfl, hx⟩
  have H := H.ext hx
  have x0 := kept2 hx x0
  have x1 := kept2 hx x1
  have y0 := kept2 hx y0
  have y1 := kept2 hx y1
  clear E p0 p1 p2 p3 p4 p5 hx
  go_upto_region 4 with fail
  obtain ⟨w4, gz, hk, hW, hx, z0, z1⟩ := new2 w3 25 (.int .i64 (max (nrm b) (nrm c))) (.bool (s || t))
  rw [hW, hk]
  have H := H.ext hx
  have x0 := kept2 hx x0
  have x1 := kept2 hx x1
  have y0 := kept2 hx y0
  have y1 := kept2 hx y1
  clear hx hW hk
  obtain ⟨E, p0, p1, p2, p3, p4, p5⟩ := id H
  have kp0 : ∀ W, Ext w4 W → W.cell? ⟨g, 0, none⟩ = some (.int .i64 b) := fun _ h => h.kept p0.1
  have kp1 : ∀ W, Ext w4 W → W.cell? ⟨g, 1, none⟩ = some (.bool s) := fun _ h => h.kept p1.1
  have kp2 : ∀ W, Ext w4 W → W.cell? ⟨g + 1, 0, none⟩ = some (.int .i64 c) := fun _ h => h.kept p2.1
  have kp3 : ∀ W, Ext w4 W → W.cell? ⟨g + 1, 1, none⟩ = some (.bool t) := fun _ h => h.kept p3.1
  have kx0 : ∀ W, Ext w4 W → W.cell? ⟨kx, 0, none⟩ = some (.int .i64 (max (nrm b) (max (nrm c) (nrm d)))) := fun _ h => h.kept x0.1
  have kx1 : ∀ W, Ext w4 W → W.cell? ⟨kx, 1, none⟩ = some (.bool (s || t || u)) := fun _ h => h.kept x1.1
  have ky0 : ∀ W, Ext w4 W → W.cell? ⟨ky, 0, none⟩ = some (.int .i64 (max (nrm b) (max (nrm c) (nrm d)))) := fun _ h => h.kept y0.1
  have ky1 : ∀ W, Ext w4 W → W.cell? ⟨ky, 1, none⟩ = some (.bool (s || t || u)) := fun _ h => h.kept y1.1
  have kz0 : ∀ W, Ext w4 W → W.cell? ⟨gz, 0, none⟩ = some (.int .i64 (max (nrm b) (nrm c))) := fun _ h => h.kept z0.1
  have kz1 : ∀ W, Ext w4 W → W.cell? ⟨gz, 1, none⟩ = some (.bool (s || t)) := fun _ h => h.kept z1.1
  have kne := known_ne
  refine region_calm 24 (by kernel_rfl) (by kernel_rfl) ?_
  simp only [List.take_succ_cons, List.take_zero, List.drop_succ_cons, List.drop_zero]
  repeat (first | (refine calm_fresh ?_ ?_ (fun wc hE => ?_) ?_; (decide); rfl; (focus (go_simp; done)); go_simp) | (refine calm_value ?_ ?_ ?_; (decide); (first | rfl | (focus (go_simp; done))); apply Exists.intro; refine ⟨fun wc hE => ?_, ?_⟩; (go_simp; exact rfl); go_simp) | (refine calm_call ?_ ?_ ?_; (decide); (first | rfl | (focus (go_simp; done))); apply Exists.intro; refine ⟨fun wc hE => ?_, ?_⟩; (go_simp; (first | (with_reducible exact calm_enter (jn_ba b c s t _)) | (with_reducible exact calm_enter (jn_zz b c s t _)) | (with_reducible exact calm_enter (jn_za b c s t _)))); go_simp) | (refine calm_skip ?_ ?_ ?_; (decide); (focus (go_simp; done)); go_simp))
  refine calm_nil ?_
  intro w5 hE
  have H := H.ext hE
  clear kp0 kp1 kp2 kp3 kx0 kx1 ky0 ky1 kz0 kz1 E p0 p1 p2 p3 p4 p5 kne
  obtain ⟨E, p0, p1, p2, p3, p4, p5⟩ := id H
  go_wp2_with fail
  refine (less_c b c s t _).mono ?_
  rintro e w6 ⟨rfl, hx⟩
  have H := H.ext hx
  clear E p0 p1 p2 p3 p4 p5 hx
  go_upto_region 7 with fail
  obtain ⟨w7, gl, hk, hW, hx, l0, l1⟩ := new2 w6 25 (.int .i64 (min (nrm b) (nrm c))) (.bool s)
  rw [hW, hk]
  have H := H.ext hx
  clear hx hW hk
  obtain ⟨E, p0, p1, p2, p3, p4, p5⟩ := id H
  have kp0 : ∀ W, Ext w7 W → W.cell? ⟨g, 0, none⟩ = some (.int .i64 b) := fun _ h => h.kept p0.1
  have kp1 : ∀ W, Ext w7 W → W.cell? ⟨g, 1, none⟩ = some (.bool s) := fun _ h => h.kept p1.1
  have kp2 : ∀ W, Ext w7 W → W.cell? ⟨g + 1, 0, none⟩ = some (.int .i64 c) := fun _ h => h.kept p2.1
  have kp3 : ∀ W, Ext w7 W → W.cell? ⟨g + 1, 1, none⟩ = some (.bool t) := fun _ h => h.kept p3.1
  have kl0 : ∀ W, Ext w7 W → W.cell? ⟨gl, 0, none⟩ = some (.int .i64 (min (nrm b) (nrm c))) := fun _ h => h.kept l0.1
  have kl1 : ∀ W, Ext w7 W → W.cell? ⟨gl, 1, none⟩ = some (.bool s) := fun _ h => h.kept l1.1
  have keq := known_eq
  have h5 := kof_five
  refine region_calm 13 (by kernel_rfl) (by kernel_rfl) ?_
  simp only [List.take_succ_cons, List.take_zero, List.drop_succ_cons, List.drop_zero]
  repeat (first | (refine calm_fresh ?_ ?_ (fun wc hE => ?_) ?_; (decide); rfl; (focus (go_simp; done)); go_simp) | (refine calm_value ?_ ?_ ?_; (decide); (first | rfl | (focus (go_simp; done))); apply Exists.intro; refine ⟨fun wc hE => ?_, ?_⟩; (go_simp; exact rfl); go_simp) | (refine calm_call ?_ ?_ ?_; (decide); (first | rfl | (focus (go_simp; done))); apply Exists.intro; refine ⟨fun wc hE => ?_, ?_⟩; (go_simp; (first | (with_reducible exact calm_enter (jn_la b c s _)) | (with_reducible exact calm_enter (jn_aa b s _)) | (with_reducible exact calm_enter (kOf_c 5 _)))); go_simp) | (refine calm_skip ?_ ?_ ?_; (decide); (focus (go_simp; done)); go_simp))
  refine calm_nil ?_
  intro w8 hE
  have H := H.ext hE
  clear E
  obtain ⟨E, -, -, -, -, -, -⟩ := id H
  go_wp2
  go_ret
  exact ⟨rfl, E⟩
