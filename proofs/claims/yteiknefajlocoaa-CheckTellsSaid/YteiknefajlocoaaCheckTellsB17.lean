/- Laid together from: KnownOp, Ck2, CkL, Ck4, Form5. -/
import Derived.Test.YteiknefajlocoaaCheckTellsB16
import Derived.Test.YteiknefajlocoaaProg
import Derived.Test.YteiknefajlocoaaCheckTellsB14

/- known.Op: the walk. -/
namespace Go.Proofs.Yteiknefajlocoaa
open Go.ChangeShapes Go.WideShapes Go.ChangeAt Go.RowKit

set_option maxHeartbeats 8000000 in
theorem kOp_c (op b c : Int) (s t : Bool) (w : World) :
    Calls Try.prog 92 #[.int .i64 op, .agg #[.int .i64 b, .bool s], .agg #[.int .i64 c, .bool t]] w fun e w' => e = .returned (.agg #[.int .i64 (kop op (nrm b) (nrm c)), .bool (s || t)]) ∧ Ext w w' := by
  obtain ⟨b0, b1⟩ := nrm_bd b
  obtain ⟨c0, c1⟩ := nrm_bd c
  go_enter Try.func92, Try.ntmps92
  go_wp2
  obtain ⟨W, g, hg, hW, hE, p0, p1, p2, p3, p4, p5, _⟩ := three_new w 78 (.int .i64 b) (.bool s) (.int .i64 c) (.bool t) (.int .i64 0) (.bool false)
  rw [hW, hg]
  have hgs : w.heap.size ≤ g := by omega
  clear hW hg
  go_cut [] (fun wx => Normed w wx g b c s t)
  case first =>
    go_region_with (go_at_call 123; refine (norm_c _ _ _).mono ?_; rintro e w1 ⟨rfl, hx⟩; have p0 := kept2 hx p0; have p1 := kept2 hx p1; have p2 := kept2 hx p2; have p3 := kept2 hx p3; have p4 := kept2 hx p4; have p5 := kept2 hx p5)
    all_goals (go_wp2_with fail; go_meet; refine normed hgs ?_ p0 p1 p2 p3 p4 p5)
    all_goals (repeat' first | (with_reducible exact Ext.refl _) | (with_reducible assumption) | (with_reducible refine Ext.drew ?_) | (with_reducible refine Ext.drewN ?_ _) | (with_reducible refine Ext.alloc ?_ _) | (with_reducible refine Ext.setCell ?_ (by first | (simp; done) | (simp; omega) | omega) _) | (with_reducible refine Ext.trans ?_ (by with_reducible assumption)))
  case rest =>
    obtain ⟨hX, q0, q1, q2, q3, q4, q5⟩ := hcut
    have hgx := hX.size
    clear hE p0 p1 p2 p3 p4 p5
    by_cases h : op = 1 ∨ op = 3 ∨ op = 4 ∨ op = 5 ∨ op = 6 ∨ op = 8 ∨ op = 9 ∨ op = 10
    · rcases h with rfl | rfl | rfl | rfl | rfl | rfl | rfl | rfl
      all_goals cases s
      all_goals go_wp2
      all_goals refine bodyPost_ret (results_two (by repeat' first | (with_reducible exact some_of q4) | (with_reducible refine some_set ?_)) (by repeat' first | (with_reducible exact some_of q5) | (with_reducible refine some_set ?_)) rfl _ rfl Try.underlying78 rfl infoKnown) rfl ⟨ret_k (by first | (simp [kop, kopN] <;> omega) | (simp only [beq_iff_eq, beq_eq_false_iff_ne, ne_eq] at *; simp [kop, kopN] <;> omega)) rfl, ?_⟩
      all_goals (repeat' first | (with_reducible exact Ext.refl _) | (with_reducible assumption) | (with_reducible refine Ext.drew ?_) | (with_reducible refine Ext.drewN ?_ _) | (with_reducible refine Ext.alloc ?_ _) | (with_reducible refine Ext.setCell ?_ (by first | (simp; done) | (simp; omega) | omega) _) | (with_reducible refine Ext.trans ?_ (by with_reducible assumption)))
    · have Hk := Lib.hid (kopN_other (op := op) (nrm b) (nrm c) (by omega) (by omega) (by omega) (by omega) (by omega) (by omega) (by omega) (by omega))
      have q1 : (op == 1) = false := by rw [beq_eq_false_iff_ne]; omega
      have q3' : (op == 3) = false := by rw [beq_eq_false_iff_ne]; omega
      have q4' : (op == 4) = false := by rw [beq_eq_false_iff_ne]; omega
      have q5' : (op == 5) = false := by rw [beq_eq_false_iff_ne]; omega
      have q6 : (op == 6) = false := by rw [beq_eq_false_iff_ne]; omega
      have q8 : (op == 8) = false := by rw [beq_eq_false_iff_ne]; omega
      have q9 : (op == 9) = false := by rw [beq_eq_false_iff_ne]; omega
      have q10 : (op == 10) = false := by rw [beq_eq_false_iff_ne]; omega
      clear h
      cases s
      all_goals go_wp2
      all_goals refine bodyPost_ret (results_two (by repeat' first | (with_reducible exact some_of q4) | (with_reducible refine some_set ?_)) (by repeat' first | (with_reducible exact some_of q5) | (with_reducible refine some_set ?_)) rfl _ rfl Try.underlying78 rfl infoKnown) rfl ⟨ret_k (by unfold kop; rw [Hk.out]; rfl) rfl, ?_⟩
      all_goals (repeat' first | (with_reducible exact Ext.refl _) | (with_reducible assumption) | (with_reducible refine Ext.drew ?_) | (with_reducible refine Ext.drewN ?_ _) | (with_reducible refine Ext.alloc ?_ _) | (with_reducible refine Ext.setCell ?_ (by first | (simp; done) | (simp; omega) | omega) _) | (with_reducible refine Ext.trans ?_ (by with_reducible assumption)))
end Go.Proofs.Yteiknefajlocoaa
/- Walks of the checker's sum and lead. -/
namespace Go.Proofs.Yteiknefajlocoaa
open Go.ChangeShapes Go.WideShapes Go.ChangeAt Go.RowKit
set_option linter.unusedVariables false
set_option linter.unusedSimpArgs false

set_option maxHeartbeats 2000000 in
theorem sum_c (k : LKn) (n : Int) (w : World) :
    Calls Try.prog 90 #[knV k, .int .i64 n] w fun e w' => e = .returned (knV (ksum k n)) ∧ Ext w w' := by
  obtain ⟨b, sc⟩ := k
  unfold knV
  simp only
  by_cases hn : n < 0
  · have Hs : Hid (ksum ⟨b, sc⟩ n = ⟨17, sc⟩) := Lib.hid (by simp [ksum, hn])
    go_enter Try.func90, Try.ntmps90
    go_wp2_with fail
    rw [Hs.out]
    have hb := (Blk.new (w.alloc (.cells #[.int .i64 b, .bool sc] 78)) 78 #[.int .i64 17, .bool sc])
    rw [World.size_alloc] at hb
    exact bodyPost_ret (results_blk hb rfl _ rfl Try.underlying78 rfl infoKnown) rfl ⟨rfl, ((Ext.refl _).alloc _).alloc _⟩
  · have Hs : Hid (ksum ⟨b, sc⟩ n = ⟨kop 1 (nrm b) (nrm (kof n)), sc⟩) := Lib.hid (by simp [ksum, hn, kopK, kofK])
    go_enter Try.func90, Try.ntmps90
    go_upto_region 3 with fail
    obtain ⟨W, g, hg, hW, hx, bA, bB⟩ := blocks2 w #[.int .i64 b, .bool sc] #[.int .i64 0, .bool false] 78 78
    rw [hW, hg]
    have X := Lib.hid hx
    have hgw : w.heap.size ≤ g + 1 := by omega
    have k0 : ∀ Wx, Ext W Wx → Wx.cell? ⟨g, 0, none⟩ = some (.int .i64 b) := fun _ h => h.kept (by rw [bA.cell]; rfl)
    have k1 : ∀ Wx, Ext W Wx → Wx.cell? ⟨g, 1, none⟩ = some (.bool sc) := fun _ h => h.kept (by rw [bA.cell]; rfl)
    clear hW hg hx bA
    refine region_calm 4 (by kernel_rfl) (by kernel_rfl) ?_
    simp only [List.take_succ_cons, List.take_zero, List.drop_succ_cons, List.drop_zero]
    repeat (first | (refine calm_fresh ?_ ?_ (fun wc hE => ?_) ?_; (decide); rfl; (focus (go_simp; done)); go_simp) | (refine calm_value ?_ ?_ ?_; (decide); (first | rfl | (focus (go_simp; done))); apply Exists.intro; refine ⟨fun wc hE => ?_, ?_⟩; (go_simp; exact rfl); go_simp) | (refine calm_call ?_ ?_ ?_; (decide); (first | rfl | (focus (go_simp; done))); apply Exists.intro; refine ⟨fun wc hE => ?_, ?_⟩; (go_simp; (first | (with_reducible exact calm_enter (kOf_c n _)) | (with_reducible exact calm_enter (kOp_c 1 b (kof n) sc false _)))); go_simp) | (refine calm_skip ?_ ?_ ?_; (decide); (focus (go_simp; done)); go_simp))
    refine calm_nil ?_
    intro wx hx
    have bB := bB.ext hx
    have X := Lib.hid (X.out.trans hx)
    have c0 : wx.cell? ⟨g + 1, 0, none⟩ = some (.int .i64 0) ∧ wx.frozen? ⟨g + 1, 0, none⟩ = false := ⟨by rw [bB.cell]; rfl, bB.frozen _⟩
    have c1 : wx.cell? ⟨g + 1, 1, none⟩ = some (.bool false) ∧ wx.frozen? ⟨g + 1, 1, none⟩ = false := ⟨by rw [bB.cell]; rfl, bB.frozen _⟩
    clear hx k0 k1
    go_wp2
    rw [Hs.out]
    have hb := (bB.set_ 0 (.int .i64 (kop 1 (nrm b) (nrm (kof n))))).set_ 1 (.bool sc)
    first
      | exact bodyPost_ret (results_blk hb rfl _ rfl Try.underlying78 rfl infoKnown) rfl ⟨rfl, (X.out.setCell hgw _).setCell hgw _⟩

theorem index_st (W : World) (g : Nat) (i : Int) (h0 : 0 ≤ i) (h1 : i < 8) :
    (Instr.indexAt 80 (.pointer (some ⟨g, 0, none⟩)) (.int .i64 i)).run Try.prog W = .ok (.pointer (some ⟨g, i.toNat * 2, none⟩)) W := by
  have hs : (Try.prog.info? 78).map (·.size) = some 2 := by kernel_rfl
  simp [Instr.indexAt, run_underlying Try.underlying80, asIntOf, Instr.sureAddr, h0, h1]
  have := addr_add g 0 (i.toNat * 2)
  simpa using this
theorem index_sts (W : World) (k n cap : Nat) (i : Int) (h0 : 0 ≤ i) (h1 : i < n) :
    (Instr.indexAt 73 (.slice (some ⟨k, 0, none⟩) n cap) (.int .i64 i)).run Try.prog W = .ok (.pointer (some ⟨k, i.toNat, none⟩)) W := by
  have hs : (Try.prog.info? 81).map (·.size) = some 1 := by kernel_rfl
  simp [Instr.indexAt, run_underlying Try.underlying73, asIntOf, h0, h1]
  have := addr_add k 0 i.toNat
  simpa using this
theorem infoState : (Try.prog.info? 80).map (·.size) = some 16 := by kernel_rfl
end Go.Proofs.Yteiknefajlocoaa
/- Whole states loaded in regions that draw their order. -/
namespace Go.Proofs.Yteiknefajlocoaa
open Go.ChangeShapes Go.WideShapes Go.ChangeAt Go.RowKit
theorem infoState' : (Try.prog.info? 80).map (·.size) = some 16 := by kernel_rfl
theorem exec_load_st {o : Oper} {a : Act} {x : Operand} {w : World} {g : Nat} {s : KSt} (ho : o.op = .load 80 x) (hx : a.eval x = .pointer (some ⟨g, 0, none⟩)) (hb : Blk w g 80 (stV s)) (hl : s.length = 8) :
    (execOp a.eval o).run Try.prog w = .ok (.value (.agg (stV s))) w := by
  have h := run_loadVar_mid (P := Try.prog) w g 0 80 (stV s).toList _ (hb.range 0 _ (fun j v hv => by simpa using hv)) Try.underlying80 rfl (by rw [Array.length_toList, stV_size hl]; exact infoState')
  unfold execOp
  simp only [ho, hx, Instr.loadAt, Instr.sureAddr, Sem.run_bind, Sem.run_pure, Result.andThen_ok, h, Array.toArray_toList]
section
variable {ops : Array Oper} {W : World} {i0 k : Nat} {mk : Nat → Value} {T : TypeId} {cs : Array Value} {Qa : Act → Prop} {o : Oper} {rest : List Oper} {a : Act} {g : Nat} {s : KSt} {hs : List Nat}
theorem calm_load_st (hk : k ≠ i0) (hw : Region.wanted o (yielded ops a.tmps) = true) (ho : ∃ x, o.op = .load 80 x ∧ a.eval x = .pointer (some ⟨g, 0, none⟩)) (hb : Blk W g 80 (stV s)) (hl : s.length = 8)
    (h : calmAll Try.prog ops W i0 mk T cs Qa (k + 1) rest (a.put o.dst (.agg (stV s)))) : calmAll Try.prog ops W i0 mk T cs Qa k (o :: rest) a :=
  by
  obtain ⟨x, ho, hx⟩ := ho
  exact calm_value hk hw ⟨_, fun _ hE => exec_load_st ho hx (hb.ext hE) hl, h⟩
theorem cw_load_st (hh : hs.contains k = false) (hw : Region.wanted o (yielded ops a.tmps) = true) (ho : ∃ x, o.op = .load 80 x ∧ a.eval x = .pointer (some ⟨g, 0, none⟩)) (hb : Blk W g 80 (stV s)) (hl : s.length = 8)
    (h : calmW Try.prog ops W hs Qa (k + 1) rest (a.put o.dst (.agg (stV s)))) : calmW Try.prog ops W hs Qa k (o :: rest) a :=
  by
  obtain ⟨x, ho, hx⟩ := ho
  exact cw_value hh hw ⟨_, fun _ hE => exec_load_st ho hx (hb.ext hE) hl, h⟩
end
end Go.Proofs.Yteiknefajlocoaa
/- Walk of the checker's branch. -/
namespace Go.Proofs.Yteiknefajlocoaa
open Go.ChangeShapes Go.WideShapes Go.ChangeAt Go.RowKit
set_option linter.unusedVariables false
set_option linter.unusedSimpArgs false

theorem st0 : (#[.int .i64 0, .bool false, .int .i64 0, .bool false, .int .i64 0, .bool false, .int .i64 0, .bool false, .int .i64 0, .bool false, .int .i64 0, .bool false, .int .i64 0, .bool false, .int .i64 0, .bool false] : Array Value) = stV kstart := by rfl
theorem two_k (W : World) (A B : Array Value) (T : TypeId) : Ext W ((W.alloc (.cells A T)).alloc (.cells B T)).drew ∧ Blk ((W.alloc (.cells A T)).alloc (.cells B T)).drew W.heap.size T A ∧ Blk ((W.alloc (.cells A T)).alloc (.cells B T)).drew (W.heap.size + 1) T B := by
  refine ⟨(((Ext.refl W).alloc _).alloc _).drew, ((Blk.new W T A).alloc _).drew, ?_⟩
  have h := Blk.new (W.alloc (.cells A T)) T B
  rw [World.size_alloc] at h
  exact h.drew
theorem kset_len (s : KSt) (r : Int) (k : LKn) : (kset s r k).length = s.length := by simp [kset]
set_option maxRecDepth 100000 in
set_option maxHeartbeats 8000000 in
theorem branch_c (s : KSt) (hl : s.length = 8) (i : LIns) (ha : okIn 8 i.a = true) (hb : okIn 8 i.b = true) (hc : 1 ≤ i.c ∧ i.c ≤ 4) (holds : Bool) (w : World) :
    Calls Try.prog 88 #[.agg (stV s), insV i, .bool holds] w fun e w' => e = .returned (.agg (stV (branchK s i holds))) ∧ Ext w w' := by
  obtain ⟨op, a, b, c, n⟩ := i
  simp only at ha hb hc
  obtain ⟨a0, a1⟩ := okIn_iff.1 ha
  obtain ⟨b0, b1⟩ := okIn_iff.1 hb
  unfold insV
  simp only
  have hst := index_st
  go_enter Try.func88, Try.ntmps88
  go_upto_region 1 with fail
  obtain ⟨W, e, he, hW, hx, bS, bI, bR⟩ := blocks3 w (stV s) #[.int .i64 op, .int .i64 a, .int .i64 b, .int .i64 c, .int .i64 n] #[.int .i64 0, .bool false, .int .i64 0, .bool false, .int .i64 0, .bool false, .int .i64 0, .bool false, .int .i64 0, .bool false, .int .i64 0, .bool false, .int .i64 0, .bool false, .int .i64 0, .bool false] 80 70 80
  rw [hW, he]
  have X := Lib.hid hx
  have Hbk : Hid (∀ h, holds = h → branchK s ⟨op, a, b, c, n⟩ holds = branchK s ⟨op, a, b, c, n⟩ h) := Lib.hid fun h e => by rw [e]
  have i1 : W.cell? ⟨e + 1, 1, none⟩ = some (.int .i64 a) := by rw [bI.cell]; rfl
  have i2 : W.cell? ⟨e + 1, 2, none⟩ = some (.int .i64 b) := by rw [bI.cell]; rfl
  have hew : w.heap.size ≤ e := by omega
  have Hew := Lib.hid hew
  have Ha := Lib.hid ha
  have Hb := Lib.hid hb
  obtain ⟨⟨x0, -⟩, ⟨x1, -⟩⟩ := st_cell bS hl ha
  obtain ⟨⟨y0, -⟩, ⟨y1, -⟩⟩ := st_cell bS hl hb
  have BS := Lib.hid bS
  have BI := Lib.hid bI
  have BR := Lib.hid bR
  have hrl := bR.lt
  have hel0 := bS.lt
  have hel1 := bI.lt
  have hE0 := (Ext.refl W).alloc (.cells #[.int .i64 0, .bool false] 78)
  have hE1 := hE0.alloc (.cells #[.int .i64 0, .bool false] 78)
  have j1 := hE0.kept i1
  have j2 := hE0.kept i2
  have l1 := hE1.kept i1
  have l2 := hE1.kept i2
  have X0 := hE0.kept x0
  have X1 := hE0.kept x1
  have Y0 := hE0.kept y0
  have Y1 := hE0.kept y1
  have X0' := hE1.kept x0
  have X1' := hE1.kept x1
  have Y0' := hE1.kept y0
  have Y1' := hE1.kept y1
  clear hE0 hE1
  clear hW hx bS bI bR he
  generalize hka : kg s a = ka at *
  generalize hkb : kg s b = kb at *
  go_cut [7, 8] (fun s7 s8 wx => ∃ p q : Nat, s7 = .pointer (some ⟨p, 0, none⟩) ∧ s8 = .pointer (some ⟨q, 0, none⟩) ∧ Ext W wx ∧ Blk wx p 78 #[.int .i64 ka.bits, .bool ka.sec] ∧ Blk wx q 78 #[.int .i64 kb.bits, .bool kb.sec])
  case first =>
    go_region
    all_goals
      go_wp2
      go_meet
      first
        | exact ⟨_, _, rfl, rfl, (two_k W _ _ _).1, (two_k W _ _ _).2.1, (two_k W _ _ _).2.2⟩
        | exact ⟨_, _, rfl, rfl, (two_k W _ _ _).1, (two_k W _ _ _).2.2, (two_k W _ _ _).2.1⟩
  case rest =>
    obtain ⟨p, q, rfl, rfl, hE, bP, bQ⟩ := hcut
    have X := Lib.hid (X.out.trans hE)
    have bS := BS.out.ext hE
    have bI := BI.out.ext hE
    have bR := BR.out.ext hE
    have hpe : W.heap.size ≤ p → True := fun _ => trivial
    clear x0 x1 y0 y1 X0 X1 Y0 Y1 X0' X1' Y0' Y1' j1 j2 l1 l2 i1 i2 hE BS BI BR hel0 hel1 hrl hpe
    have hne1 : p ≠ e := Blk.ne_ bP bS (by decide)
    have hne2 : q ≠ e := Blk.ne_ bQ bS (by decide)
    have hne3 : e + 1 ≠ e := by omega
    have i1 : wc.cell? ⟨e + 1, 1, none⟩ = some (.int .i64 a) := by rw [bI.cell]; rfl
    have i2 : wc.cell? ⟨e + 1, 2, none⟩ = some (.int .i64 b) := by rw [bI.cell]; rfl
    have i3 : wc.cell? ⟨e + 1, 3, none⟩ = some (.int .i64 c) := by rw [bI.cell]; rfl
    have hrl := bR.lt
    rcases (show c = 1 ∨ c = 2 ∨ c = 3 ∨ c = 4 by omega) with rfl | rfl | rfl | rfl <;> cases holds
    · go_wp2_with (first | ((with_reducible refine load_all bS ?_ Try.underlying80 ?_ ?_ ?_); rfl; rfl; (rw [stV_size hl]; exact infoState')) | ((with_reducible refine store_all bR (stV s) ?_ ?_ ?_ ?_ ?_ ?_); rfl; rfl; (rw [stV_size hl]; rfl); (rw [stV_size hl]; exact infoState'); exact stV_one _))
      have hbr : branchK s ⟨op, a, b, 1, n⟩ false = s := by
        unfold branchK tells1 tells2
        simp [hka, hkb]
        skip
      have hb := bR.stored (stV s) (by rw [stV_size hl]; rfl)
      rw [hbr]
      exact bodyPost_ret (results_blk hb rfl _ rfl Try.underlying80 rfl (by rw [stV_size hl]; exact infoState')) rfl ⟨rfl, X.out.setCells _ (by have := Hew.out; omega) 0⟩
    · go_upto_region 6 with fail
      try clear hwwA
      have k1 : ∀ Wx, Ext wc Wx → Wx.cell? ⟨e + 1, 1, none⟩ = some (.int .i64 a) := fun _ h => h.kept i1
      have kp0 : ∀ Wx, Ext wc Wx → Wx.cell? ⟨p, 0, none⟩ = some (.int .i64 ka.bits) := fun _ h => h.kept (by rw [bP.cell]; rfl)
      have kp1 : ∀ Wx, Ext wc Wx → Wx.cell? ⟨p, 1, none⟩ = some (.bool ka.sec) := fun _ h => h.kept (by rw [bP.cell]; rfl)
      have kq0 : ∀ Wx, Ext wc Wx → Wx.cell? ⟨q, 0, none⟩ = some (.int .i64 kb.bits) := fun _ h => h.kept (by rw [bQ.cell]; rfl)
      have kq1 : ∀ Wx, Ext wc Wx → Wx.cell? ⟨q, 1, none⟩ = some (.bool kb.sec) := fun _ h => h.kept (by rw [bQ.cell]; rfl)
      have HS := Lib.hid bS
      have HP := Lib.hid bP
      have HQ := Lib.hid bQ
      have HI := Lib.hid bI
      have HR := Lib.hid bR
      clear bS bP bQ bI bR i1 i2 i3
      refine region_calm 5 (by kernel_rfl) (by kernel_rfl) ?_
      simp only [List.take_succ_cons, List.take_zero, List.drop_succ_cons, List.drop_zero]
      repeat (first | (refine calm_fresh ?_ ?_ (fun wc hE => ?_) ?_; (decide); rfl; (focus (go_simp; done)); go_simp) | (refine calm_value ?_ ?_ ?_; (decide); (first | rfl | (focus (go_simp; done))); apply Exists.intro; refine ⟨fun wc hE => ?_, ?_⟩; (go_simp; exact rfl); go_simp) | (refine calm_call ?_ ?_ ?_; (decide); (first | rfl | (focus (go_simp; done))); apply Exists.intro; refine ⟨fun wc hE => ?_, ?_⟩; (go_simp; (first | (with_reducible exact calm_enter (less_c ka.bits kb.bits ka.sec kb.sec _)))); go_simp) | (refine calm_skip ?_ ?_ ?_; (decide); (focus (go_simp; done)); go_simp))
      refine calm_nil ?_
      intro wy hx
      have X := Lib.hid (X.out.trans hx)
      have bS := HS.out.ext hx
      have bP := HP.out.ext hx
      have bQ := HQ.out.ext hx
      have bI := HI.out.ext hx
      have bR := HR.out.ext hx
      obtain ⟨rr0, rr1⟩ := st_cell bS hl Ha.out
      have hel := bS.lt
      have hw2 : ∃ w2, (wy.setCell ⟨e, a.toNat * 2, none⟩ (.int .i64 (min (nrm ka.bits) (nrm kb.bits)))).setCell ⟨e, a.toNat * 2 + 1, none⟩ (.bool ka.sec) = w2 ∧ Blk w2 e 80 (stV (kset s a (kless ka kb))) ∧ Blk w2 p 78 #[.int .i64 ka.bits, .bool ka.sec] ∧ Blk w2 q 78 #[.int .i64 kb.bits, .bool kb.sec] ∧ Blk w2 (e + 1) 70 #[.int .i64 op, .int .i64 a, .int .i64 b, .int .i64 1, .int .i64 n] ∧ Blk w2 (e + 1 + 1) 80 #[.int .i64 0, .bool false, .int .i64 0, .bool false, .int .i64 0, .bool false, .int .i64 0, .bool false, .int .i64 0, .bool false, .int .i64 0, .bool false, .int .i64 0, .bool false, .int .i64 0, .bool false] ∧ Ext w w2 := by
        have hb := st_put bS hl Ha.out (kless ka kb)
        exact ⟨_, rfl, hb, (bP.far (p := ⟨e, _, none⟩) hne1 _).far (p := ⟨e, _, none⟩) hne1 _, (bQ.far (p := ⟨e, _, none⟩) hne2 _).far (p := ⟨e, _, none⟩) hne2 _, (bI.far (p := ⟨e, _, none⟩) hne3 _).far (p := ⟨e, _, none⟩) hne3 _, (bR.far (p := ⟨e, _, none⟩) (by simp only; omega) _).far (p := ⟨e, _, none⟩) (by simp only; omega) _, (X.out.setCell (p := ⟨e, _, none⟩) Hew.out _).setCell (p := ⟨e, _, none⟩) Hew.out _⟩
      obtain ⟨w2, hw2, hB⟩ := hw2
      have HB := Lib.hid hB
      clear hB hx k1 kp0 kp1 kq0 kq1 bS bP bQ bI bR
      obtain ⟨bS, bP, bQ, bI, bR, X⟩ := HB.out
      have X := Lib.hid X
      have i1 : w2.cell? ⟨e + 1, 1, none⟩ = some (.int .i64 a) := by rw [bI.cell]; rfl
      have i2 : w2.cell? ⟨e + 1, 2, none⟩ = some (.int .i64 b) := by rw [bI.cell]; rfl
      have i3 : w2.cell? ⟨e + 1, 3, none⟩ = some (.int .i64 1) := by rw [bI.cell]; rfl
      have hel0 := bS.lt
      have hel1 := bR.lt
      have hl : (kset s a (kless ka kb)).length = 8 := by rw [kset_len]; exact hl
      generalize hsA : kset s a (kless ka kb) = sA at *
      clear HB HS HP HQ HI HR
      have hwwA := hw2
      clear hw2
      go_upto_region 8 with fail
      try clear hwwA
      have k1 : ∀ Wx, Ext w2 Wx → Wx.cell? ⟨e + 1, 2, none⟩ = some (.int .i64 b) := fun _ h => h.kept i2
      have kp0 : ∀ Wx, Ext w2 Wx → Wx.cell? ⟨p, 0, none⟩ = some (.int .i64 ka.bits) := fun _ h => h.kept (by rw [bP.cell]; rfl)
      have kp1 : ∀ Wx, Ext w2 Wx → Wx.cell? ⟨p, 1, none⟩ = some (.bool ka.sec) := fun _ h => h.kept (by rw [bP.cell]; rfl)
      have kq0 : ∀ Wx, Ext w2 Wx → Wx.cell? ⟨q, 0, none⟩ = some (.int .i64 kb.bits) := fun _ h => h.kept (by rw [bQ.cell]; rfl)
      have kq1 : ∀ Wx, Ext w2 Wx → Wx.cell? ⟨q, 1, none⟩ = some (.bool kb.sec) := fun _ h => h.kept (by rw [bQ.cell]; rfl)
      have HS := Lib.hid bS
      have HP := Lib.hid bP
      have HQ := Lib.hid bQ
      have HI := Lib.hid bI
      have HR := Lib.hid bR
      clear bS bP bQ bI bR i1 i2 i3
      refine region_calm 5 (by kernel_rfl) (by kernel_rfl) ?_
      simp only [List.take_succ_cons, List.take_zero, List.drop_succ_cons, List.drop_zero]
      repeat (first | (refine calm_fresh ?_ ?_ (fun w2 hE => ?_) ?_; (decide); rfl; (focus (go_simp; done)); go_simp) | (refine calm_value ?_ ?_ ?_; (decide); (first | rfl | (focus (go_simp; done))); apply Exists.intro; refine ⟨fun w2 hE => ?_, ?_⟩; (go_simp; exact rfl); go_simp) | (refine calm_call ?_ ?_ ?_; (decide); (first | rfl | (focus (go_simp; done))); apply Exists.intro; refine ⟨fun w2 hE => ?_, ?_⟩; (go_simp; (first | (with_reducible exact calm_enter (less_c kb.bits ka.bits kb.sec ka.sec _)))); go_simp) | (refine calm_skip ?_ ?_ ?_; (decide); (focus (go_simp; done)); go_simp))
      refine calm_nil ?_
      intro wz hx
      have X := Lib.hid (X.out.trans hx)
      have bS := HS.out.ext hx
      have bP := HP.out.ext hx
      have bQ := HQ.out.ext hx
      have bI := HI.out.ext hx
      have bR := HR.out.ext hx
      obtain ⟨rr0, rr1⟩ := st_cell bS hl Hb.out
      have hel := bS.lt
      have hw2 : ∃ w3, (wz.setCell ⟨e, b.toNat * 2, none⟩ (.int .i64 (min (nrm kb.bits) (nrm ka.bits)))).setCell ⟨e, b.toNat * 2 + 1, none⟩ (.bool kb.sec) = w3 ∧ Blk w3 e 80 (stV (kset sA b (kless kb ka))) ∧ Blk w3 p 78 #[.int .i64 ka.bits, .bool ka.sec] ∧ Blk w3 q 78 #[.int .i64 kb.bits, .bool kb.sec] ∧ Blk w3 (e + 1) 70 #[.int .i64 op, .int .i64 a, .int .i64 b, .int .i64 1, .int .i64 n] ∧ Blk w3 (e + 1 + 1) 80 #[.int .i64 0, .bool false, .int .i64 0, .bool false, .int .i64 0, .bool false, .int .i64 0, .bool false, .int .i64 0, .bool false, .int .i64 0, .bool false, .int .i64 0, .bool false, .int .i64 0, .bool false] ∧ Ext w w3 := by
        have hb := st_put bS hl Hb.out (kless kb ka)
        exact ⟨_, rfl, hb, (bP.far (p := ⟨e, _, none⟩) hne1 _).far (p := ⟨e, _, none⟩) hne1 _, (bQ.far (p := ⟨e, _, none⟩) hne2 _).far (p := ⟨e, _, none⟩) hne2 _, (bI.far (p := ⟨e, _, none⟩) hne3 _).far (p := ⟨e, _, none⟩) hne3 _, (bR.far (p := ⟨e, _, none⟩) (by simp only; omega) _).far (p := ⟨e, _, none⟩) (by simp only; omega) _, (X.out.setCell (p := ⟨e, _, none⟩) Hew.out _).setCell (p := ⟨e, _, none⟩) Hew.out _⟩
      obtain ⟨w3, hw2, hB⟩ := hw2
      have HB := Lib.hid hB
      clear hB hx k1 kp0 kp1 kq0 kq1 bS bP bQ bI bR
      obtain ⟨bS, bP, bQ, bI, bR, X⟩ := HB.out
      have X := Lib.hid X
      have i1 : w3.cell? ⟨e + 1, 1, none⟩ = some (.int .i64 a) := by rw [bI.cell]; rfl
      have i2 : w3.cell? ⟨e + 1, 2, none⟩ = some (.int .i64 b) := by rw [bI.cell]; rfl
      have i3 : w3.cell? ⟨e + 1, 3, none⟩ = some (.int .i64 1) := by rw [bI.cell]; rfl
      have hel0 := bS.lt
      have hel1 := bR.lt
      have hl : (kset sA b (kless kb ka)).length = 8 := by rw [kset_len]; exact hl
      generalize hsB : kset sA b (kless kb ka) = sB at *
      clear HB HS HP HQ HI HR
      have hwwB := hw2
      clear hw2
      go_wp2_with (first | ((with_reducible refine load_all bS ?_ Try.underlying80 ?_ ?_ ?_); rfl; rfl; (rw [stV_size hl]; exact infoState')) | ((with_reducible refine store_all bR (stV sB) ?_ ?_ ?_ ?_ ?_ ?_); rfl; rfl; (rw [stV_size hl]; rfl); (rw [stV_size hl]; exact infoState'); exact stV_one _))
      have hbr : branchK s ⟨op, a, b, 1, n⟩ true = sB := by
        unfold branchK tells1 tells2
        simp [hka, hkb]
        rw [hsA]; exact hsB
      have hb := bR.stored (stV sB) (by rw [stV_size hl]; rfl)
      rw [hbr]
      exact bodyPost_ret (results_blk hb rfl _ rfl Try.underlying80 rfl (by rw [stV_size hl]; exact infoState')) rfl ⟨rfl, X.out.setCells _ (by have := Hew.out; omega) 0⟩
    · go_upto_region 6 with fail
      try clear hwwA
      have k1 : ∀ Wx, Ext wc Wx → Wx.cell? ⟨e + 1, 1, none⟩ = some (.int .i64 a) := fun _ h => h.kept i1
      have kp0 : ∀ Wx, Ext wc Wx → Wx.cell? ⟨p, 0, none⟩ = some (.int .i64 ka.bits) := fun _ h => h.kept (by rw [bP.cell]; rfl)
      have kp1 : ∀ Wx, Ext wc Wx → Wx.cell? ⟨p, 1, none⟩ = some (.bool ka.sec) := fun _ h => h.kept (by rw [bP.cell]; rfl)
      have kq0 : ∀ Wx, Ext wc Wx → Wx.cell? ⟨q, 0, none⟩ = some (.int .i64 kb.bits) := fun _ h => h.kept (by rw [bQ.cell]; rfl)
      have kq1 : ∀ Wx, Ext wc Wx → Wx.cell? ⟨q, 1, none⟩ = some (.bool kb.sec) := fun _ h => h.kept (by rw [bQ.cell]; rfl)
      have HS := Lib.hid bS
      have HP := Lib.hid bP
      have HQ := Lib.hid bQ
      have HI := Lib.hid bI
      have HR := Lib.hid bR
      clear bS bP bQ bI bR i1 i2 i3
      refine region_calm 5 (by kernel_rfl) (by kernel_rfl) ?_
      simp only [List.take_succ_cons, List.take_zero, List.drop_succ_cons, List.drop_zero]
      repeat (first | (refine calm_fresh ?_ ?_ (fun wc hE => ?_) ?_; (decide); rfl; (focus (go_simp; done)); go_simp) | (refine calm_value ?_ ?_ ?_; (decide); (first | rfl | (focus (go_simp; done))); apply Exists.intro; refine ⟨fun wc hE => ?_, ?_⟩; (go_simp; exact rfl); go_simp) | (refine calm_call ?_ ?_ ?_; (decide); (first | rfl | (focus (go_simp; done))); apply Exists.intro; refine ⟨fun wc hE => ?_, ?_⟩; (go_simp; (first | (with_reducible exact calm_enter (less_c ka.bits kb.bits ka.sec kb.sec _)))); go_simp) | (refine calm_skip ?_ ?_ ?_; (decide); (focus (go_simp; done)); go_simp))
      refine calm_nil ?_
      intro wy hx
      have X := Lib.hid (X.out.trans hx)
      have bS := HS.out.ext hx
      have bP := HP.out.ext hx
      have bQ := HQ.out.ext hx
      have bI := HI.out.ext hx
      have bR := HR.out.ext hx
      obtain ⟨rr0, rr1⟩ := st_cell bS hl Ha.out
      have hel := bS.lt
      have hw2 : ∃ w2, (wy.setCell ⟨e, a.toNat * 2, none⟩ (.int .i64 (min (nrm ka.bits) (nrm kb.bits)))).setCell ⟨e, a.toNat * 2 + 1, none⟩ (.bool ka.sec) = w2 ∧ Blk w2 e 80 (stV (kset s a (kless ka kb))) ∧ Blk w2 p 78 #[.int .i64 ka.bits, .bool ka.sec] ∧ Blk w2 q 78 #[.int .i64 kb.bits, .bool kb.sec] ∧ Blk w2 (e + 1) 70 #[.int .i64 op, .int .i64 a, .int .i64 b, .int .i64 2, .int .i64 n] ∧ Blk w2 (e + 1 + 1) 80 #[.int .i64 0, .bool false, .int .i64 0, .bool false, .int .i64 0, .bool false, .int .i64 0, .bool false, .int .i64 0, .bool false, .int .i64 0, .bool false, .int .i64 0, .bool false, .int .i64 0, .bool false] ∧ Ext w w2 := by
        have hb := st_put bS hl Ha.out (kless ka kb)
        exact ⟨_, rfl, hb, (bP.far (p := ⟨e, _, none⟩) hne1 _).far (p := ⟨e, _, none⟩) hne1 _, (bQ.far (p := ⟨e, _, none⟩) hne2 _).far (p := ⟨e, _, none⟩) hne2 _, (bI.far (p := ⟨e, _, none⟩) hne3 _).far (p := ⟨e, _, none⟩) hne3 _, (bR.far (p := ⟨e, _, none⟩) (by simp only; omega) _).far (p := ⟨e, _, none⟩) (by simp only; omega) _, (X.out.setCell (p := ⟨e, _, none⟩) Hew.out _).setCell (p := ⟨e, _, none⟩) Hew.out _⟩
      obtain ⟨w2, hw2, hB⟩ := hw2
      have HB := Lib.hid hB
      clear hB hx k1 kp0 kp1 kq0 kq1 bS bP bQ bI bR
      obtain ⟨bS, bP, bQ, bI, bR, X⟩ := HB.out
      have X := Lib.hid X
      have i1 : w2.cell? ⟨e + 1, 1, none⟩ = some (.int .i64 a) := by rw [bI.cell]; rfl
      have i2 : w2.cell? ⟨e + 1, 2, none⟩ = some (.int .i64 b) := by rw [bI.cell]; rfl
      have i3 : w2.cell? ⟨e + 1, 3, none⟩ = some (.int .i64 2) := by rw [bI.cell]; rfl
      have hel0 := bS.lt
      have hel1 := bR.lt
      have hl : (kset s a (kless ka kb)).length = 8 := by rw [kset_len]; exact hl
      generalize hsA : kset s a (kless ka kb) = sA at *
      clear HB HS HP HQ HI HR
      have hwwA := hw2
      clear hw2
      go_upto_region 8 with fail
      try clear hwwA
      have k1 : ∀ Wx, Ext w2 Wx → Wx.cell? ⟨e + 1, 2, none⟩ = some (.int .i64 b) := fun _ h => h.kept i2
      have kp0 : ∀ Wx, Ext w2 Wx → Wx.cell? ⟨p, 0, none⟩ = some (.int .i64 ka.bits) := fun _ h => h.kept (by rw [bP.cell]; rfl)
      have kp1 : ∀ Wx, Ext w2 Wx → Wx.cell? ⟨p, 1, none⟩ = some (.bool ka.sec) := fun _ h => h.kept (by rw [bP.cell]; rfl)
      have kq0 : ∀ Wx, Ext w2 Wx → Wx.cell? ⟨q, 0, none⟩ = some (.int .i64 kb.bits) := fun _ h => h.kept (by rw [bQ.cell]; rfl)
      have kq1 : ∀ Wx, Ext w2 Wx → Wx.cell? ⟨q, 1, none⟩ = some (.bool kb.sec) := fun _ h => h.kept (by rw [bQ.cell]; rfl)
      have HS := Lib.hid bS
      have HP := Lib.hid bP
      have HQ := Lib.hid bQ
      have HI := Lib.hid bI
      have HR := Lib.hid bR
      clear bS bP bQ bI bR i1 i2 i3
      refine region_calm 5 (by kernel_rfl) (by kernel_rfl) ?_
      simp only [List.take_succ_cons, List.take_zero, List.drop_succ_cons, List.drop_zero]
      repeat (first | (refine calm_fresh ?_ ?_ (fun w2 hE => ?_) ?_; (decide); rfl; (focus (go_simp; done)); go_simp) | (refine calm_value ?_ ?_ ?_; (decide); (first | rfl | (focus (go_simp; done))); apply Exists.intro; refine ⟨fun w2 hE => ?_, ?_⟩; (go_simp; exact rfl); go_simp) | (refine calm_call ?_ ?_ ?_; (decide); (first | rfl | (focus (go_simp; done))); apply Exists.intro; refine ⟨fun w2 hE => ?_, ?_⟩; (go_simp; (first | (with_reducible exact calm_enter (less_c kb.bits ka.bits kb.sec ka.sec _)))); go_simp) | (refine calm_skip ?_ ?_ ?_; (decide); (focus (go_simp; done)); go_simp))
      refine calm_nil ?_
      intro wz hx
      have X := Lib.hid (X.out.trans hx)
      have bS := HS.out.ext hx
      have bP := HP.out.ext hx
      have bQ := HQ.out.ext hx
      have bI := HI.out.ext hx
      have bR := HR.out.ext hx
      obtain ⟨rr0, rr1⟩ := st_cell bS hl Hb.out
      have hel := bS.lt
      have hw2 : ∃ w3, (wz.setCell ⟨e, b.toNat * 2, none⟩ (.int .i64 (min (nrm kb.bits) (nrm ka.bits)))).setCell ⟨e, b.toNat * 2 + 1, none⟩ (.bool kb.sec) = w3 ∧ Blk w3 e 80 (stV (kset sA b (kless kb ka))) ∧ Blk w3 p 78 #[.int .i64 ka.bits, .bool ka.sec] ∧ Blk w3 q 78 #[.int .i64 kb.bits, .bool kb.sec] ∧ Blk w3 (e + 1) 70 #[.int .i64 op, .int .i64 a, .int .i64 b, .int .i64 2, .int .i64 n] ∧ Blk w3 (e + 1 + 1) 80 #[.int .i64 0, .bool false, .int .i64 0, .bool false, .int .i64 0, .bool false, .int .i64 0, .bool false, .int .i64 0, .bool false, .int .i64 0, .bool false, .int .i64 0, .bool false, .int .i64 0, .bool false] ∧ Ext w w3 := by
        have hb := st_put bS hl Hb.out (kless kb ka)
        exact ⟨_, rfl, hb, (bP.far (p := ⟨e, _, none⟩) hne1 _).far (p := ⟨e, _, none⟩) hne1 _, (bQ.far (p := ⟨e, _, none⟩) hne2 _).far (p := ⟨e, _, none⟩) hne2 _, (bI.far (p := ⟨e, _, none⟩) hne3 _).far (p := ⟨e, _, none⟩) hne3 _, (bR.far (p := ⟨e, _, none⟩) (by simp only; omega) _).far (p := ⟨e, _, none⟩) (by simp only; omega) _, (X.out.setCell (p := ⟨e, _, none⟩) Hew.out _).setCell (p := ⟨e, _, none⟩) Hew.out _⟩
      obtain ⟨w3, hw2, hB⟩ := hw2
      have HB := Lib.hid hB
      clear hB hx k1 kp0 kp1 kq0 kq1 bS bP bQ bI bR
      obtain ⟨bS, bP, bQ, bI, bR, X⟩ := HB.out
      have X := Lib.hid X
      have i1 : w3.cell? ⟨e + 1, 1, none⟩ = some (.int .i64 a) := by rw [bI.cell]; rfl
      have i2 : w3.cell? ⟨e + 1, 2, none⟩ = some (.int .i64 b) := by rw [bI.cell]; rfl
      have i3 : w3.cell? ⟨e + 1, 3, none⟩ = some (.int .i64 2) := by rw [bI.cell]; rfl
      have hel0 := bS.lt
      have hel1 := bR.lt
      have hl : (kset sA b (kless kb ka)).length = 8 := by rw [kset_len]; exact hl
      generalize hsB : kset sA b (kless kb ka) = sB at *
      clear HB HS HP HQ HI HR
      have hwwB := hw2
      clear hw2
      go_wp2_with (first | ((with_reducible refine load_all bS ?_ Try.underlying80 ?_ ?_ ?_); rfl; rfl; (rw [stV_size hl]; exact infoState')) | ((with_reducible refine store_all bR (stV sB) ?_ ?_ ?_ ?_ ?_ ?_); rfl; rfl; (rw [stV_size hl]; rfl); (rw [stV_size hl]; exact infoState'); exact stV_one _))
      have hbr : branchK s ⟨op, a, b, 2, n⟩ false = sB := by
        unfold branchK tells1 tells2
        simp [hka, hkb]
        rw [hsA]; exact hsB
      have hb := bR.stored (stV sB) (by rw [stV_size hl]; rfl)
      rw [hbr]
      exact bodyPost_ret (results_blk hb rfl _ rfl Try.underlying80 rfl (by rw [stV_size hl]; exact infoState')) rfl ⟨rfl, X.out.setCells _ (by have := Hew.out; omega) 0⟩
    · go_wp2_with (first | ((with_reducible refine load_all bS ?_ Try.underlying80 ?_ ?_ ?_); rfl; rfl; (rw [stV_size hl]; exact infoState')) | ((with_reducible refine store_all bR (stV s) ?_ ?_ ?_ ?_ ?_ ?_); rfl; rfl; (rw [stV_size hl]; rfl); (rw [stV_size hl]; exact infoState'); exact stV_one _))
      have hbr : branchK s ⟨op, a, b, 2, n⟩ true = s := by
        unfold branchK tells1 tells2
        simp [hka, hkb]
        skip
      have hb := bR.stored (stV s) (by rw [stV_size hl]; rfl)
      rw [hbr]
      exact bodyPost_ret (results_blk hb rfl _ rfl Try.underlying80 rfl (by rw [stV_size hl]; exact infoState')) rfl ⟨rfl, X.out.setCells _ (by have := Hew.out; omega) 0⟩
    · go_upto_region 8 with fail
      try clear hwwA
      have k1 : ∀ Wx, Ext wc Wx → Wx.cell? ⟨e + 1, 2, none⟩ = some (.int .i64 b) := fun _ h => h.kept i2
      have kp0 : ∀ Wx, Ext wc Wx → Wx.cell? ⟨p, 0, none⟩ = some (.int .i64 ka.bits) := fun _ h => h.kept (by rw [bP.cell]; rfl)
      have kp1 : ∀ Wx, Ext wc Wx → Wx.cell? ⟨p, 1, none⟩ = some (.bool ka.sec) := fun _ h => h.kept (by rw [bP.cell]; rfl)
      have kq0 : ∀ Wx, Ext wc Wx → Wx.cell? ⟨q, 0, none⟩ = some (.int .i64 kb.bits) := fun _ h => h.kept (by rw [bQ.cell]; rfl)
      have kq1 : ∀ Wx, Ext wc Wx → Wx.cell? ⟨q, 1, none⟩ = some (.bool kb.sec) := fun _ h => h.kept (by rw [bQ.cell]; rfl)
      have HS := Lib.hid bS
      have HP := Lib.hid bP
      have HQ := Lib.hid bQ
      have HI := Lib.hid bI
      have HR := Lib.hid bR
      clear bS bP bQ bI bR i1 i2 i3
      refine region_calm 5 (by kernel_rfl) (by kernel_rfl) ?_
      simp only [List.take_succ_cons, List.take_zero, List.drop_succ_cons, List.drop_zero]
      repeat (first | (refine calm_fresh ?_ ?_ (fun wc hE => ?_) ?_; (decide); rfl; (focus (go_simp; done)); go_simp) | (refine calm_value ?_ ?_ ?_; (decide); (first | rfl | (focus (go_simp; done))); apply Exists.intro; refine ⟨fun wc hE => ?_, ?_⟩; (go_simp; exact rfl); go_simp) | (refine calm_call ?_ ?_ ?_; (decide); (first | rfl | (focus (go_simp; done))); apply Exists.intro; refine ⟨fun wc hE => ?_, ?_⟩; (go_simp; (first | (with_reducible exact calm_enter (less_c kb.bits ka.bits kb.sec ka.sec _)))); go_simp) | (refine calm_skip ?_ ?_ ?_; (decide); (focus (go_simp; done)); go_simp))
      refine calm_nil ?_
      intro wy hx
      have X := Lib.hid (X.out.trans hx)
      have bS := HS.out.ext hx
      have bP := HP.out.ext hx
      have bQ := HQ.out.ext hx
      have bI := HI.out.ext hx
      have bR := HR.out.ext hx
      obtain ⟨rr0, rr1⟩ := st_cell bS hl Hb.out
      have hel := bS.lt
      have hw2 : ∃ w2, (wy.setCell ⟨e, b.toNat * 2, none⟩ (.int .i64 (min (nrm kb.bits) (nrm ka.bits)))).setCell ⟨e, b.toNat * 2 + 1, none⟩ (.bool kb.sec) = w2 ∧ Blk w2 e 80 (stV (kset s b (kless kb ka))) ∧ Blk w2 p 78 #[.int .i64 ka.bits, .bool ka.sec] ∧ Blk w2 q 78 #[.int .i64 kb.bits, .bool kb.sec] ∧ Blk w2 (e + 1) 70 #[.int .i64 op, .int .i64 a, .int .i64 b, .int .i64 3, .int .i64 n] ∧ Blk w2 (e + 1 + 1) 80 #[.int .i64 0, .bool false, .int .i64 0, .bool false, .int .i64 0, .bool false, .int .i64 0, .bool false, .int .i64 0, .bool false, .int .i64 0, .bool false, .int .i64 0, .bool false, .int .i64 0, .bool false] ∧ Ext w w2 := by
        have hb := st_put bS hl Hb.out (kless kb ka)
        exact ⟨_, rfl, hb, (bP.far (p := ⟨e, _, none⟩) hne1 _).far (p := ⟨e, _, none⟩) hne1 _, (bQ.far (p := ⟨e, _, none⟩) hne2 _).far (p := ⟨e, _, none⟩) hne2 _, (bI.far (p := ⟨e, _, none⟩) hne3 _).far (p := ⟨e, _, none⟩) hne3 _, (bR.far (p := ⟨e, _, none⟩) (by simp only; omega) _).far (p := ⟨e, _, none⟩) (by simp only; omega) _, (X.out.setCell (p := ⟨e, _, none⟩) Hew.out _).setCell (p := ⟨e, _, none⟩) Hew.out _⟩
      obtain ⟨w2, hw2, hB⟩ := hw2
      have HB := Lib.hid hB
      clear hB hx k1 kp0 kp1 kq0 kq1 bS bP bQ bI bR
      obtain ⟨bS, bP, bQ, bI, bR, X⟩ := HB.out
      have X := Lib.hid X
      have i1 : w2.cell? ⟨e + 1, 1, none⟩ = some (.int .i64 a) := by rw [bI.cell]; rfl
      have i2 : w2.cell? ⟨e + 1, 2, none⟩ = some (.int .i64 b) := by rw [bI.cell]; rfl
      have i3 : w2.cell? ⟨e + 1, 3, none⟩ = some (.int .i64 3) := by rw [bI.cell]; rfl
      have hel0 := bS.lt
      have hel1 := bR.lt
      have hl : (kset s b (kless kb ka)).length = 8 := by rw [kset_len]; exact hl
      generalize hsB : kset s b (kless kb ka) = sB at *
      clear HB HS HP HQ HI HR
      have hwwB := hw2
      clear hw2
      go_wp2_with (first | ((with_reducible refine load_all bS ?_ Try.underlying80 ?_ ?_ ?_); rfl; rfl; (rw [stV_size hl]; exact infoState')) | ((with_reducible refine store_all bR (stV sB) ?_ ?_ ?_ ?_ ?_ ?_); rfl; rfl; (rw [stV_size hl]; rfl); (rw [stV_size hl]; exact infoState'); exact stV_one _))
      have hbr : branchK s ⟨op, a, b, 3, n⟩ false = sB := by
        unfold branchK tells1 tells2
        simp [hka, hkb]
        exact hsB
      have hb := bR.stored (stV sB) (by rw [stV_size hl]; rfl)
      rw [hbr]
      exact bodyPost_ret (results_blk hb rfl _ rfl Try.underlying80 rfl (by rw [stV_size hl]; exact infoState')) rfl ⟨rfl, X.out.setCells _ (by have := Hew.out; omega) 0⟩
    · go_upto_region 6 with fail
      try clear hwwA
      have k1 : ∀ Wx, Ext wc Wx → Wx.cell? ⟨e + 1, 1, none⟩ = some (.int .i64 a) := fun _ h => h.kept i1
      have kp0 : ∀ Wx, Ext wc Wx → Wx.cell? ⟨p, 0, none⟩ = some (.int .i64 ka.bits) := fun _ h => h.kept (by rw [bP.cell]; rfl)
      have kp1 : ∀ Wx, Ext wc Wx → Wx.cell? ⟨p, 1, none⟩ = some (.bool ka.sec) := fun _ h => h.kept (by rw [bP.cell]; rfl)
      have kq0 : ∀ Wx, Ext wc Wx → Wx.cell? ⟨q, 0, none⟩ = some (.int .i64 kb.bits) := fun _ h => h.kept (by rw [bQ.cell]; rfl)
      have kq1 : ∀ Wx, Ext wc Wx → Wx.cell? ⟨q, 1, none⟩ = some (.bool kb.sec) := fun _ h => h.kept (by rw [bQ.cell]; rfl)
      have HS := Lib.hid bS
      have HP := Lib.hid bP
      have HQ := Lib.hid bQ
      have HI := Lib.hid bI
      have HR := Lib.hid bR
      clear bS bP bQ bI bR i1 i2 i3
      refine region_calm 5 (by kernel_rfl) (by kernel_rfl) ?_
      simp only [List.take_succ_cons, List.take_zero, List.drop_succ_cons, List.drop_zero]
      repeat (first | (refine calm_fresh ?_ ?_ (fun wc hE => ?_) ?_; (decide); rfl; (focus (go_simp; done)); go_simp) | (refine calm_value ?_ ?_ ?_; (decide); (first | rfl | (focus (go_simp; done))); apply Exists.intro; refine ⟨fun wc hE => ?_, ?_⟩; (go_simp; exact rfl); go_simp) | (refine calm_call ?_ ?_ ?_; (decide); (first | rfl | (focus (go_simp; done))); apply Exists.intro; refine ⟨fun wc hE => ?_, ?_⟩; (go_simp; (first | (with_reducible exact calm_enter (less_c ka.bits kb.bits ka.sec kb.sec _)))); go_simp) | (refine calm_skip ?_ ?_ ?_; (decide); (focus (go_simp; done)); go_simp))
      refine calm_nil ?_
      intro wy hx
      have X := Lib.hid (X.out.trans hx)
      have bS := HS.out.ext hx
      have bP := HP.out.ext hx
      have bQ := HQ.out.ext hx
      have bI := HI.out.ext hx
      have bR := HR.out.ext hx
      obtain ⟨rr0, rr1⟩ := st_cell bS hl Ha.out
      have hel := bS.lt
      have hw2 : ∃ w2, (wy.setCell ⟨e, a.toNat * 2, none⟩ (.int .i64 (min (nrm ka.bits) (nrm kb.bits)))).setCell ⟨e, a.toNat * 2 + 1, none⟩ (.bool ka.sec) = w2 ∧ Blk w2 e 80 (stV (kset s a (kless ka kb))) ∧ Blk w2 p 78 #[.int .i64 ka.bits, .bool ka.sec] ∧ Blk w2 q 78 #[.int .i64 kb.bits, .bool kb.sec] ∧ Blk w2 (e + 1) 70 #[.int .i64 op, .int .i64 a, .int .i64 b, .int .i64 3, .int .i64 n] ∧ Blk w2 (e + 1 + 1) 80 #[.int .i64 0, .bool false, .int .i64 0, .bool false, .int .i64 0, .bool false, .int .i64 0, .bool false, .int .i64 0, .bool false, .int .i64 0, .bool false, .int .i64 0, .bool false, .int .i64 0, .bool false] ∧ Ext w w2 := by
        have hb := st_put bS hl Ha.out (kless ka kb)
        exact ⟨_, rfl, hb, (bP.far (p := ⟨e, _, none⟩) hne1 _).far (p := ⟨e, _, none⟩) hne1 _, (bQ.far (p := ⟨e, _, none⟩) hne2 _).far (p := ⟨e, _, none⟩) hne2 _, (bI.far (p := ⟨e, _, none⟩) hne3 _).far (p := ⟨e, _, none⟩) hne3 _, (bR.far (p := ⟨e, _, none⟩) (by simp only; omega) _).far (p := ⟨e, _, none⟩) (by simp only; omega) _, (X.out.setCell (p := ⟨e, _, none⟩) Hew.out _).setCell (p := ⟨e, _, none⟩) Hew.out _⟩
      obtain ⟨w2, hw2, hB⟩ := hw2
      have HB := Lib.hid hB
      clear hB hx k1 kp0 kp1 kq0 kq1 bS bP bQ bI bR
      obtain ⟨bS, bP, bQ, bI, bR, X⟩ := HB.out
      have X := Lib.hid X
      have i1 : w2.cell? ⟨e + 1, 1, none⟩ = some (.int .i64 a) := by rw [bI.cell]; rfl
      have i2 : w2.cell? ⟨e + 1, 2, none⟩ = some (.int .i64 b) := by rw [bI.cell]; rfl
      have i3 : w2.cell? ⟨e + 1, 3, none⟩ = some (.int .i64 3) := by rw [bI.cell]; rfl
      have hel0 := bS.lt
      have hel1 := bR.lt
      have hl : (kset s a (kless ka kb)).length = 8 := by rw [kset_len]; exact hl
      generalize hsA : kset s a (kless ka kb) = sA at *
      clear HB HS HP HQ HI HR
      have hwwA := hw2
      clear hw2
      go_wp2_with (first | ((with_reducible refine load_all bS ?_ Try.underlying80 ?_ ?_ ?_); rfl; rfl; (rw [stV_size hl]; exact infoState')) | ((with_reducible refine store_all bR (stV sA) ?_ ?_ ?_ ?_ ?_ ?_); rfl; rfl; (rw [stV_size hl]; rfl); (rw [stV_size hl]; exact infoState'); exact stV_one _))
      have hbr : branchK s ⟨op, a, b, 3, n⟩ true = sA := by
        unfold branchK tells1 tells2
        simp [hka, hkb]
        exact hsA
      have hb := bR.stored (stV sA) (by rw [stV_size hl]; rfl)
      rw [hbr]
      exact bodyPost_ret (results_blk hb rfl _ rfl Try.underlying80 rfl (by rw [stV_size hl]; exact infoState')) rfl ⟨rfl, X.out.setCells _ (by have := Hew.out; omega) 0⟩
    · go_upto_region 6 with fail
      try clear hwwA
      have k1 : ∀ Wx, Ext wc Wx → Wx.cell? ⟨e + 1, 1, none⟩ = some (.int .i64 a) := fun _ h => h.kept i1
      have kp0 : ∀ Wx, Ext wc Wx → Wx.cell? ⟨p, 0, none⟩ = some (.int .i64 ka.bits) := fun _ h => h.kept (by rw [bP.cell]; rfl)
      have kp1 : ∀ Wx, Ext wc Wx → Wx.cell? ⟨p, 1, none⟩ = some (.bool ka.sec) := fun _ h => h.kept (by rw [bP.cell]; rfl)
      have kq0 : ∀ Wx, Ext wc Wx → Wx.cell? ⟨q, 0, none⟩ = some (.int .i64 kb.bits) := fun _ h => h.kept (by rw [bQ.cell]; rfl)
      have kq1 : ∀ Wx, Ext wc Wx → Wx.cell? ⟨q, 1, none⟩ = some (.bool kb.sec) := fun _ h => h.kept (by rw [bQ.cell]; rfl)
      have HS := Lib.hid bS
      have HP := Lib.hid bP
      have HQ := Lib.hid bQ
      have HI := Lib.hid bI
      have HR := Lib.hid bR
      clear bS bP bQ bI bR i1 i2 i3
      refine region_calm 5 (by kernel_rfl) (by kernel_rfl) ?_
      simp only [List.take_succ_cons, List.take_zero, List.drop_succ_cons, List.drop_zero]
      repeat (first | (refine calm_fresh ?_ ?_ (fun wc hE => ?_) ?_; (decide); rfl; (focus (go_simp; done)); go_simp) | (refine calm_value ?_ ?_ ?_; (decide); (first | rfl | (focus (go_simp; done))); apply Exists.intro; refine ⟨fun wc hE => ?_, ?_⟩; (go_simp; exact rfl); go_simp) | (refine calm_call ?_ ?_ ?_; (decide); (first | rfl | (focus (go_simp; done))); apply Exists.intro; refine ⟨fun wc hE => ?_, ?_⟩; (go_simp; (first | (with_reducible exact calm_enter (less_c ka.bits kb.bits ka.sec kb.sec _)))); go_simp) | (refine calm_skip ?_ ?_ ?_; (decide); (focus (go_simp; done)); go_simp))
      refine calm_nil ?_
      intro wy hx
      have X := Lib.hid (X.out.trans hx)
      have bS := HS.out.ext hx
      have bP := HP.out.ext hx
      have bQ := HQ.out.ext hx
      have bI := HI.out.ext hx
      have bR := HR.out.ext hx
      obtain ⟨rr0, rr1⟩ := st_cell bS hl Ha.out
      have hel := bS.lt
      have hw2 : ∃ w2, (wy.setCell ⟨e, a.toNat * 2, none⟩ (.int .i64 (min (nrm ka.bits) (nrm kb.bits)))).setCell ⟨e, a.toNat * 2 + 1, none⟩ (.bool ka.sec) = w2 ∧ Blk w2 e 80 (stV (kset s a (kless ka kb))) ∧ Blk w2 p 78 #[.int .i64 ka.bits, .bool ka.sec] ∧ Blk w2 q 78 #[.int .i64 kb.bits, .bool kb.sec] ∧ Blk w2 (e + 1) 70 #[.int .i64 op, .int .i64 a, .int .i64 b, .int .i64 4, .int .i64 n] ∧ Blk w2 (e + 1 + 1) 80 #[.int .i64 0, .bool false, .int .i64 0, .bool false, .int .i64 0, .bool false, .int .i64 0, .bool false, .int .i64 0, .bool false, .int .i64 0, .bool false, .int .i64 0, .bool false, .int .i64 0, .bool false] ∧ Ext w w2 := by
        have hb := st_put bS hl Ha.out (kless ka kb)
        exact ⟨_, rfl, hb, (bP.far (p := ⟨e, _, none⟩) hne1 _).far (p := ⟨e, _, none⟩) hne1 _, (bQ.far (p := ⟨e, _, none⟩) hne2 _).far (p := ⟨e, _, none⟩) hne2 _, (bI.far (p := ⟨e, _, none⟩) hne3 _).far (p := ⟨e, _, none⟩) hne3 _, (bR.far (p := ⟨e, _, none⟩) (by simp only; omega) _).far (p := ⟨e, _, none⟩) (by simp only; omega) _, (X.out.setCell (p := ⟨e, _, none⟩) Hew.out _).setCell (p := ⟨e, _, none⟩) Hew.out _⟩
      obtain ⟨w2, hw2, hB⟩ := hw2
      have HB := Lib.hid hB
      clear hB hx k1 kp0 kp1 kq0 kq1 bS bP bQ bI bR
      obtain ⟨bS, bP, bQ, bI, bR, X⟩ := HB.out
      have X := Lib.hid X
      have i1 : w2.cell? ⟨e + 1, 1, none⟩ = some (.int .i64 a) := by rw [bI.cell]; rfl
      have i2 : w2.cell? ⟨e + 1, 2, none⟩ = some (.int .i64 b) := by rw [bI.cell]; rfl
      have i3 : w2.cell? ⟨e + 1, 3, none⟩ = some (.int .i64 4) := by rw [bI.cell]; rfl
      have hel0 := bS.lt
      have hel1 := bR.lt
      have hl : (kset s a (kless ka kb)).length = 8 := by rw [kset_len]; exact hl
      generalize hsA : kset s a (kless ka kb) = sA at *
      clear HB HS HP HQ HI HR
      have hwwA := hw2
      clear hw2
      go_wp2_with (first | ((with_reducible refine load_all bS ?_ Try.underlying80 ?_ ?_ ?_); rfl; rfl; (rw [stV_size hl]; exact infoState')) | ((with_reducible refine store_all bR (stV sA) ?_ ?_ ?_ ?_ ?_ ?_); rfl; rfl; (rw [stV_size hl]; rfl); (rw [stV_size hl]; exact infoState'); exact stV_one _))
      have hbr : branchK s ⟨op, a, b, 4, n⟩ false = sA := by
        unfold branchK tells1 tells2
        simp [hka, hkb]
        exact hsA
      have hb := bR.stored (stV sA) (by rw [stV_size hl]; rfl)
      rw [hbr]
      exact bodyPost_ret (results_blk hb rfl _ rfl Try.underlying80 rfl (by rw [stV_size hl]; exact infoState')) rfl ⟨rfl, X.out.setCells _ (by have := Hew.out; omega) 0⟩
    · go_upto_region 8 with fail
      try clear hwwA
      have k1 : ∀ Wx, Ext wc Wx → Wx.cell? ⟨e + 1, 2, none⟩ = some (.int .i64 b) := fun _ h => h.kept i2
      have kp0 : ∀ Wx, Ext wc Wx → Wx.cell? ⟨p, 0, none⟩ = some (.int .i64 ka.bits) := fun _ h => h.kept (by rw [bP.cell]; rfl)
      have kp1 : ∀ Wx, Ext wc Wx → Wx.cell? ⟨p, 1, none⟩ = some (.bool ka.sec) := fun _ h => h.kept (by rw [bP.cell]; rfl)
      have kq0 : ∀ Wx, Ext wc Wx → Wx.cell? ⟨q, 0, none⟩ = some (.int .i64 kb.bits) := fun _ h => h.kept (by rw [bQ.cell]; rfl)
      have kq1 : ∀ Wx, Ext wc Wx → Wx.cell? ⟨q, 1, none⟩ = some (.bool kb.sec) := fun _ h => h.kept (by rw [bQ.cell]; rfl)
      have HS := Lib.hid bS
      have HP := Lib.hid bP
      have HQ := Lib.hid bQ
      have HI := Lib.hid bI
      have HR := Lib.hid bR
      clear bS bP bQ bI bR i1 i2 i3
      refine region_calm 5 (by kernel_rfl) (by kernel_rfl) ?_
      simp only [List.take_succ_cons, List.take_zero, List.drop_succ_cons, List.drop_zero]
      repeat (first | (refine calm_fresh ?_ ?_ (fun wc hE => ?_) ?_; (decide); rfl; (focus (go_simp; done)); go_simp) | (refine calm_value ?_ ?_ ?_; (decide); (first | rfl | (focus (go_simp; done))); apply Exists.intro; refine ⟨fun wc hE => ?_, ?_⟩; (go_simp; exact rfl); go_simp) | (refine calm_call ?_ ?_ ?_; (decide); (first | rfl | (focus (go_simp; done))); apply Exists.intro; refine ⟨fun wc hE => ?_, ?_⟩; (go_simp; (first | (with_reducible exact calm_enter (less_c kb.bits ka.bits kb.sec ka.sec _)))); go_simp) | (refine calm_skip ?_ ?_ ?_; (decide); (focus (go_simp; done)); go_simp))
      refine calm_nil ?_
      intro wy hx
      have X := Lib.hid (X.out.trans hx)
      have bS := HS.out.ext hx
      have bP := HP.out.ext hx
      have bQ := HQ.out.ext hx
      have bI := HI.out.ext hx
      have bR := HR.out.ext hx
      obtain ⟨rr0, rr1⟩ := st_cell bS hl Hb.out
      have hel := bS.lt
      have hw2 : ∃ w2, (wy.setCell ⟨e, b.toNat * 2, none⟩ (.int .i64 (min (nrm kb.bits) (nrm ka.bits)))).setCell ⟨e, b.toNat * 2 + 1, none⟩ (.bool kb.sec) = w2 ∧ Blk w2 e 80 (stV (kset s b (kless kb ka))) ∧ Blk w2 p 78 #[.int .i64 ka.bits, .bool ka.sec] ∧ Blk w2 q 78 #[.int .i64 kb.bits, .bool kb.sec] ∧ Blk w2 (e + 1) 70 #[.int .i64 op, .int .i64 a, .int .i64 b, .int .i64 4, .int .i64 n] ∧ Blk w2 (e + 1 + 1) 80 #[.int .i64 0, .bool false, .int .i64 0, .bool false, .int .i64 0, .bool false, .int .i64 0, .bool false, .int .i64 0, .bool false, .int .i64 0, .bool false, .int .i64 0, .bool false, .int .i64 0, .bool false] ∧ Ext w w2 := by
        have hb := st_put bS hl Hb.out (kless kb ka)
        exact ⟨_, rfl, hb, (bP.far (p := ⟨e, _, none⟩) hne1 _).far (p := ⟨e, _, none⟩) hne1 _, (bQ.far (p := ⟨e, _, none⟩) hne2 _).far (p := ⟨e, _, none⟩) hne2 _, (bI.far (p := ⟨e, _, none⟩) hne3 _).far (p := ⟨e, _, none⟩) hne3 _, (bR.far (p := ⟨e, _, none⟩) (by simp only; omega) _).far (p := ⟨e, _, none⟩) (by simp only; omega) _, (X.out.setCell (p := ⟨e, _, none⟩) Hew.out _).setCell (p := ⟨e, _, none⟩) Hew.out _⟩
      obtain ⟨w2, hw2, hB⟩ := hw2
      have HB := Lib.hid hB
      clear hB hx k1 kp0 kp1 kq0 kq1 bS bP bQ bI bR
      obtain ⟨bS, bP, bQ, bI, bR, X⟩ := HB.out
      have X := Lib.hid X
      have i1 : w2.cell? ⟨e + 1, 1, none⟩ = some (.int .i64 a) := by rw [bI.cell]; rfl
      have i2 : w2.cell? ⟨e + 1, 2, none⟩ = some (.int .i64 b) := by rw [bI.cell]; rfl
      have i3 : w2.cell? ⟨e + 1, 3, none⟩ = some (.int .i64 4) := by rw [bI.cell]; rfl
      have hel0 := bS.lt
      have hel1 := bR.lt
      have hl : (kset s b (kless kb ka)).length = 8 := by rw [kset_len]; exact hl
      generalize hsB : kset s b (kless kb ka) = sB at *
      clear HB HS HP HQ HI HR
      have hwwB := hw2
      clear hw2
      go_wp2_with (first | ((with_reducible refine load_all bS ?_ Try.underlying80 ?_ ?_ ?_); rfl; rfl; (rw [stV_size hl]; exact infoState')) | ((with_reducible refine store_all bR (stV sB) ?_ ?_ ?_ ?_ ?_ ?_); rfl; rfl; (rw [stV_size hl]; rfl); (rw [stV_size hl]; exact infoState'); exact stV_one _))
      have hbr : branchK s ⟨op, a, b, 4, n⟩ true = sB := by
        unfold branchK tells1 tells2
        simp [hka, hkb]
        exact hsB
      have hb := bR.stored (stV sB) (by rw [stV_size hl]; rfl)
      rw [hbr]
      exact bodyPost_ret (results_blk hb rfl _ rfl Try.underlying80 rfl (by rw [stV_size hl]; exact infoState')) rfl ⟨rfl, X.out.setCells _ (by have := Hew.out; omega) 0⟩
end Go.Proofs.Yteiknefajlocoaa
/- Walks of layout's look, May, Hard, Fits. -/
namespace Go.Proofs.Yteiknefajlocoaa
open Go.ChangeShapes Go.WideShapes Go.ChangeAt Go.RowKit
set_option linter.unusedVariables false
set_option linter.unusedSimpArgs false

theorem Rows.upd {w w' : World} {oa : Option Addr} {b o n c : Nat} {f : Nat → Nat → Value} {p : Addr} {v : Value} (h : Rows w oa b o n c f) (hp : p.block ≠ b) (hx : Ext (w.setCell p v) w') : Rows w' oa b o n c f :=
  ⟨h.at_, fun i j hi hj => upd_cell hx (by rintro rfl; exact hp rfl) (h.cell i j hi hj)⟩
theorem lt_of_rows {w : World} {oa : Option Addr} {b o n c : Nat} {f : Nat → Nat → Value} (h : Rows w oa b o n c f) (hn : 0 < n) (hc : 0 < c) : b < w.heap.size := by
  have := block_lt (h.cell 0 0 hn hc)
  exact this
/-- a slice of nothing may as well lie at any block -/
theorem Rows.away {w : World} {oa : Option Addr} {b o n c : Nat} {f : Nat → Nat → Value} (h : Rows w oa b o n c f) (hc : 0 < c) (g : Nat) (hg : w.heap.size ≤ g) : ∃ b', b' ≠ g ∧ Rows w oa b' o n c f := by
  by_cases hn : 0 < n
  · exact ⟨b, by have := lt_of_rows h hn hc; omega, h⟩
  · refine ⟨g + 1, by omega, ⟨fun h0 => absurd h0 hn, fun i j hi hj => by omega⟩⟩
theorem one_le_cast (n : Nat) : decide (1 ≤ n) = decide ((1 : Int) ≤ (n : Int)) := by rw [Bool.eq_iff_iff]; simp; omega
set_option maxHeartbeats 4000000 in
theorem look_c (p : LProg) (v : Value) (most R : Int) (hm : R64 most) (hRr : R64 R) (w : World) (hp : ProgAt w v p) :
    Calls Try.prog 86 #[v, .int .i64 most, .int .i64 R] w fun e w' => e = .returned (.bool (progOk p most R)) ∧ Ext w w' := by
  have hp' := hp
  obtain ⟨v1, v2, rfl, ⟨hb, oa, cap, b, o, rfl, hc1, hc2, hrow⟩, ⟨hf, ob, capb, b2, o2, rfl, hd1, hd2, hrow2⟩⟩ := hp
  have HP := Lib.hid hp'
  have hm0 := hm.1
  have hm1 := hm.2
  have Hrow := Lib.hid hrow
  have Hrow2 := Lib.hid hrow2
  have hlen := len_bd hc1 hc2
  have hlen2 := len_bd hd1 hd2
  have hix := index_code (cap := capb) hrow2.at_
  clear hrow hrow2 hc1 hc2 hd1 hd2 hp'
  go_enter Try.func86, Try.ntmps86
  go_upto_region 1 with fail
  obtain ⟨w0, g, hg, hW, hx, c0, c1⟩ := new2 w 25 (.slice oa p.regs.length cap) (.slice ob p.code.length capb)
  rw [hW, hg]
  have X0 := Lib.hid hx
  clear hW hx
  have hgs : w.heap.size ≤ g := by omega
  clear hg
  obtain ⟨ok0, Hok0⟩ : ∃ b : Bool, Hid (b = (regsOk p.regs && decide ((1 : Int) ≤ (p.code.length : Int)) && decide ((p.code.length : Int) ≤ most))) := ⟨_, Lib.hid rfl⟩
  go_cut [7] (fun s7 wx => ∃ k : Nat, s7 = .pointer (some ⟨k, 0, none⟩) ∧ w0.heap.size ≤ k ∧ Ext w0 wx ∧ Blk wx k 157 #[.slice oa p.regs.length cap, .slice ob p.code.length capb, .int .i64 R, .bool ok0])
  case first =>
    have k0 : ∀ W, Ext w0 W → W.cell? ⟨g, 0, none⟩ = some (.slice oa p.regs.length cap) := fun _ h => h.kept c0.1
    have k1 : ∀ W, Ext w0 W → W.cell? ⟨g, 1, none⟩ = some (.slice ob p.code.length capb) := fun _ h => h.kept c1.1
    have HC : ∀ W, Ext w0 W → Hid (Calls Try.prog 121 #[.agg #[.slice oa p.regs.length cap, .slice ob p.code.length capb]] W fun e w' => e = .returned (.bool (regsOk p.regs)) ∧ Ext W w') := fun W h => Lib.hid (regions_c p _ W (HP.out.ext (X0.out.trans h)))
    refine region_fresh 19 18 (some 28) (by decide) rfl (by kernel_rfl) (by kernel_rfl) (fun k => .pointer (some ⟨k, 0, none⟩)) 157 #[.slice oa p.regs.length cap, .slice ob p.code.length capb, .int .i64 R, .bool ok0] ?_
    simp only [List.take_succ_cons, List.take_zero, List.drop_succ_cons, List.drop_zero]
    cases hr : regsOk p.regs
    · have hk0 : ok0 = false := by rw [Hok0.out, hr]; rfl
      rw [hr] at HC
      clear hr Hok0
      subst hk0
      repeat (first | (refine calm_fresh ?_ ?_ (fun wc hE => ?_) ?_; (decide); rfl; (focus (go_simp; done)); go_simp) | (refine calm_value ?_ ?_ ?_; (decide); (first | rfl | (focus (go_simp; done))); apply Exists.intro; refine ⟨fun wc hE => ?_, ?_⟩; (go_simp; exact rfl); go_simp) | (refine calm_call ?_ ?_ ?_; (decide); (first | rfl | (focus (go_simp; done))); apply Exists.intro; refine ⟨fun wc hE => ?_, ?_⟩; (go_simp; (first | (with_reducible exact calm_enter ((HC _ ‹_›).out)))); go_simp) | (refine calm_skip ?_ ?_ ?_; (decide); (focus (go_simp; done)); go_simp))
      refine calm_nil ?_
      intro k wx hk hB hE
      go_wp2
      go_meet
      exact ⟨k, rfl, hk, hE, hB⟩
    · rw [hr] at HC
      by_cases h1 : (1 : Int) ≤ (p.code.length : Int)
      · by_cases h2 : (p.code.length : Int) ≤ most
        · have hk0 : ok0 = true := by rw [Hok0.out, hr]; simp [h1, h2]
          clear hr Hok0
          subst hk0
          repeat (first | (refine calm_fresh ?_ ?_ (fun wc hE => ?_) ?_; (decide); rfl; (focus (go_simp; done)); go_simp) | (refine calm_value ?_ ?_ ?_; (decide); (first | rfl | (focus (go_simp; done))); apply Exists.intro; refine ⟨fun wc hE => ?_, ?_⟩; (go_simp; exact rfl); go_simp) | (refine calm_call ?_ ?_ ?_; (decide); (first | rfl | (focus (go_simp; done))); apply Exists.intro; refine ⟨fun wc hE => ?_, ?_⟩; (go_simp; (first | (with_reducible exact calm_enter ((HC _ ‹_›).out)))); go_simp) | (refine calm_skip ?_ ?_ ?_; (decide); (focus (go_simp; done)); go_simp))
          refine calm_nil ?_
          intro k wx hk hB hE
          go_wp2
          go_meet
          exact ⟨k, rfl, hk, hE, hB⟩
        · have hk0 : ok0 = false := by rw [Hok0.out, hr]; simp [h1, h2]
          have h2' : decide ((p.code.length : Int) ≤ most) = false := by simpa using h2
          clear hr Hok0 h2
          subst hk0
          repeat (first | (refine calm_fresh ?_ ?_ (fun wc hE => ?_) ?_; (decide); rfl; (focus (go_simp; done)); go_simp) | (refine calm_value ?_ ?_ ?_; (decide); (first | rfl | (focus (go_simp; done))); apply Exists.intro; refine ⟨fun wc hE => ?_, ?_⟩; (go_simp; exact rfl); go_simp) | (refine calm_call ?_ ?_ ?_; (decide); (first | rfl | (focus (go_simp; done))); apply Exists.intro; refine ⟨fun wc hE => ?_, ?_⟩; (go_simp; (first | (with_reducible exact calm_enter ((HC _ ‹_›).out)))); go_simp) | (refine calm_skip ?_ ?_ ?_; (decide); (focus (go_simp; done)); go_simp))
          refine calm_nil ?_
          intro k wx hk hB hE
          go_wp2
          go_meet
          exact ⟨k, rfl, hk, hE, hB⟩
      · have hk0 : ok0 = false := by rw [Hok0.out, hr]; simp [h1]
        have h1' : decide ((1 : Int) ≤ (p.code.length : Int)) = false := by simpa using h1
        clear hr Hok0 h1
        subst hk0
        repeat (first | (refine calm_fresh ?_ ?_ (fun wc hE => ?_) ?_; (decide); rfl; (focus (go_simp; done)); go_simp) | (refine calm_value ?_ ?_ ?_; (decide); (first | rfl | (focus (go_simp; done))); apply Exists.intro; refine ⟨fun wc hE => ?_, ?_⟩; (go_simp; exact rfl); go_simp) | (refine calm_call ?_ ?_ ?_; (decide); (first | rfl | (focus (go_simp; done))); apply Exists.intro; refine ⟨fun wc hE => ?_, ?_⟩; (go_simp; (first | (with_reducible exact calm_enter ((HC _ ‹_›).out)))); go_simp) | (refine calm_skip ?_ ?_ ?_; (decide); (focus (go_simp; done)); go_simp))
        refine calm_nil ?_
        intro k wx hk hB hE
        go_wp2
        go_meet
        exact ⟨k, rfl, hk, hE, hB⟩
  case rest =>
  obtain ⟨k, rfl, hk, hE, hB⟩ := hcut
  have g0 : wc.cell? ⟨k, 0, none⟩ = some (.slice oa p.regs.length cap) := by rw [hB.cell]; rfl
  have g1 : wc.cell? ⟨k, 1, none⟩ = some (.slice ob p.code.length capb) := by rw [hB.cell]; rfl
  have g2 : wc.cell? ⟨k, 2, none⟩ = some (.int .i64 R) := by rw [hB.cell]; rfl
  have g3 : wc.cell? ⟨k, 3, none⟩ = some (.bool ok0) ∧ wc.frozen? ⟨k, 3, none⟩ = false := ⟨by rw [hB.cell]; rfl, hB.frozen 3⟩
  have c0 := kept2 hE c0
  have c1 := kept2 hE c1
  have XC := Lib.hid (X0.out.trans hE)
  have hks : w.heap.size ≤ k := Nat.le_trans X0.out.size hk
  obtain ⟨b', hb', hR'⟩ := Hrow.out.away (by omega) k hks
  have HR := Lib.hid (hR'.ext XC.out)
  clear hB hE hk hR'
  go_wp2_with fail
  go_loopw [32] (fun i wr => ∃ j : Nat, j ≤ p.code.length ∧ i = .int .i64 j ∧ Ext (wc.setCell ⟨k, 3, none⟩ (.bool (ok0 && (p.code.take j).all (insOk p R)))) wr) (fun i _ => p.code.length - (intOf i).toNat)
  case atStart => exact ⟨0, by omega, rfl, by simpa using upd_refl g3.1 (Ext.refl _)⟩
  case round =>
    obtain ⟨j, hj, rfl, hr⟩ := hrel
    have r0 := upd_cell hr (by simp) g0
    have r1 := upd_cell hr (by simp) g1
    have r2 := upd_cell hr (by simp) g2
    have r3 := upd_same hr g3
    have Hr := Lib.hid hr
    have EW := Lib.hid (upd_new hr XC.out hks)
    clear hr
    by_cases hlt : j < p.code.length
    · obtain ⟨e0, e1, e2, e3, e4⟩ := (Hrow2.out.ext EW.out).ins j hlt
      have hfi := hf _ (getD_mem hlt)
      have Hs := Lib.hid (take_and (insOk p R) p.code j default hlt ok0)
      have Hfalse := Lib.hid (all_false (insOk p R) p.code j default hlt)
      generalize p.code.getD j default = i at *
      obtain ⟨okj, Hokj⟩ : ∃ b : Bool, Hid (b = (ok0 && (p.code.take j).all (insOk p R))) := ⟨_, Lib.hid rfl⟩
      rw [← Hokj.out] at r3 Hr Hs
      have hkl : k < wr.heap.size := block_lt r3.1
      cases okj
      · go_wp2
        go_ret
        refine ⟨ret_b ?_, EW.out.alloc _⟩
        have hz := Hokj.out
        have ht : (ok0 && p.code.all (insOk p R)) = false := by
          rw [← List.take_append_drop j p.code, List.all_append, ← Bool.and_assoc, ← hz]; rfl
        unfold progOk
        rw [← ht, Hok0.out]
        rw [one_le_cast]
      · have hreg : true = true → ∀ r ∈ p.regs, 0 ≤ r.log ∧ r.log ≤ 6 := fun _ => by
          have hz := Hokj.out.symm
          rw [Hok0.out] at hz
          simp only [Bool.and_eq_true] at hz
          have h1 := hz.1.1.1
          simp only [regsOk, Bool.and_eq_true, List.all_eq_true] at h1
          intro r hr
          have := h1.1 r hr
          simpa [regOk] using this
        have hA := (Ext.refl wr).alloc (.cells #[.int .i64 i.op, .int .i64 i.a, .int .i64 i.b, .int .i64 i.c, .int .i64 i.n] 70)
        have C := ins_c k oa cap ob capb R true p i hfi (wr.alloc (.cells #[.int .i64 i.op, .int .i64 i.a, .int .i64 i.b, .int .i64 i.c, .int .i64 i.n] 70)) b' o (Ne.symm hb') ((HR.out.upd (Ne.symm hb') Hr.out).ext hA) hreg (hA.kept r0) (hA.kept r1) (hA.kept r2) (kept2 hA r3)
        have HC := Lib.hid C
        clear C hA hreg
        go_wp2_with fail
        (with_reducible refine HC.out.mono ?_)
        rintro e' w2 ⟨rfl, hx⟩
        have hfin := Lib.hid (upd_trans Hr.out (upd_after ((Ext.refl wr).alloc _) hx))
        rw [← Hs.out] at hfin
        clear hx HC
        go_wp2
        go_roundw
        case rel => exact ⟨j + 1, by omega, by go_num, hfin.out⟩
        case measure => first | (simp [intOf]; done) | (simp [intOf]; omega)
    · have hje : j = p.code.length := by omega
      subst hje
      rw [List.take_length] at r3
      go_wp2
      go_ret
      refine ⟨ret_b ?_, EW.out⟩
      unfold progOk
      rw [Hok0.out]
      rw [one_le_cast]

theorem may_c (p : LProg) (v : Value) (w : World) (hp : ProgAt w v p) :
    Calls Try.prog 50 #[v] w fun e w' => e = .returned (.bool (mayOk p)) ∧ Ext w w' := by
  have HP := Lib.hid hp
  obtain ⟨v1, v2, rfl, -⟩ := hp
  go_enter Try.func50, Try.ntmps50
  go_wp2_with fail
  have hA := (Ext.refl w).alloc (.cells #[v1, v2] 25)
  have C := look_c p _ 200 8 (by unfold R64; omega) (by unfold R64; omega) _ (HP.out.ext hA)
  (with_reducible refine C.mono ?_)
  rintro e w1 ⟨rfl, hx⟩
  have HX := Lib.hid (hA.trans hx)
  clear hx hA C
  go_wp2
  go_ret
  exact ⟨rfl, HX.out⟩
theorem hard_c (p : LProg) (v : Value) (w : World) (hp : ProgAt w v p) :
    Calls Try.prog 103 #[v] w fun e w' => e = .returned (.bool (hardOk p)) ∧ Ext w w' := by
  have HP := Lib.hid hp
  obtain ⟨v1, v2, rfl, -⟩ := hp
  go_enter Try.func103, Try.ntmps103
  go_wp2_with fail
  have hA := (Ext.refl w).alloc (.cells #[v1, v2] 25)
  have C := look_c p _ 8000 10 (by unfold R64; omega) (by unfold R64; omega) _ (HP.out.ext hA)
  (with_reducible refine C.mono ?_)
  rintro e w1 ⟨rfl, hx⟩
  have HX := Lib.hid (hA.trans hx)
  clear hx hA C
  go_wp2
  go_ret
  exact ⟨rfl, HX.out⟩
end Go.Proofs.Yteiknefajlocoaa
