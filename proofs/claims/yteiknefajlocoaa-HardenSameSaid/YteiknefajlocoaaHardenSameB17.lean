/- Laid together from: Ck4, Form5, Same8. -/
import Derived.Test.YteiknefajlocoaaHardenSameB16
import Derived.Test.YteiknefajlocoaaHardenSameB14
import Derived.Test.YteiknefajlocoaaHardenSameB9
import Derived.Test.YteiknefajlocoaaHardenSameB11

/- Walk of the checker's branch. -/
namespace Go.Proofs.Yteiknefajlocoaa
open Go.ChangeShapes Go.WideShapes Go.ChangeAt Go.RowKit
set_option linter.unusedVariables false
set_option linter.unusedSimpArgs false

theorem st0 : (#[.int .i64 0, .bool false, .int .i64 0, .bool false, .int .i64 0, .bool false, .int .i64 0, .bool false, .int .i64 0, .bool false, .int .i64 0, .bool false, .int .i64 0, .bool false, .int .i64 0, .bool false] : Array Value) = stV kstart := by rfl
theorem two_k (W : World) (A B : Array Value) (T : TypeId) : Ext W ((W.alloc (.cells A T)).alloc (.cells B T)).drew ∧ Blk ((W.alloc (.cells A T)).alloc (.cells B T)).drew W.heap.size T A ∧ Blk ((W.alloc (.cells A T)).alloc (.cells B T)).drew (W.heap.size + 1) T B := by
  refine ⟨(((Ext.refl W).alloc _).alloc _).drew, ((Blk.new W T A).alloc _).drew, ?_⟩
  have h := Blk.new (W.alloc (.cells A T)) T B
  rw [World.size_alloc] at h
  exact h.drew
theorem kset_len (s : KSt) (r : Int) (k : LKn) : (kset s r k).length = s.length := by simp [kset]
set_option maxRecDepth 100000 in
set_option maxHeartbeats 8000000 in
theorem branch_c (s : KSt) (hl : s.length = 8) (i : LIns) (ha : okIn 8 i.a = true) (hb : okIn 8 i.b = true) (hc : 1 ≤ i.c ∧ i.c ≤ 4) (holds : Bool) (w : World) :
    Calls Try.prog 88 #[.agg (stV s), insV i, .bool holds] w fun e w' => e = .returned (.agg (stV (branchK s i holds))) ∧ Ext w w' := by
  obtain ⟨op, a, b, c, n⟩ := i
  simp only at ha hb hc
  obtain ⟨a0, a1⟩ := okIn_iff.1 ha
  obtain ⟨b0, b1⟩ := okIn_iff.1 hb
  unfold insV
  simp only
  have hst := index_st
  go_enter Try.func88, Try.ntmps88
  go_upto_region 1 with fail
  obtain ⟨W, e, he, hW, hx, bS, bI, bR⟩ := blocks3 w (stV s) #[.int .i64 op, .int .i64 a, .int .i64 b, .int .i64 c, .int .i64 n] #[.int .i64 0, .bool false, .int .i64 0, .bool false, .int .i64 0, .bool false, .int .i64 0, .bool false, .int .i64 0, .bool false, .int .i64 0, .bool false, .int .i64 0, .bool false, .int .i64 0, .bool false] 80 70 80
  rw [hW, he]
  have X := Lib.hid hx
  have Hbk : Hid (∀ h, holds = h → branchK s ⟨op, a, b, c, n⟩ holds = branchK s ⟨op, a, b, c, n⟩ h) := Lib.hid fun h e => by rw [e]
  have i1 : W.cell? ⟨e + 1, 1, none⟩ = some (.int .i64 a) := by rw [bI.cell]; rfl
  have i2 : W.cell? ⟨e + 1, 2, none⟩ = some (.int .i64 b) := by rw [bI.cell]; rfl
  have hew : w.heap.size ≤ e := by omega
  have Hew := Lib.hid hew
  have Ha := Lib.hid ha
  have Hb := Lib.hid hb
  obtain ⟨⟨x0, -⟩, ⟨x1, -⟩⟩ := st_cell bS hl ha
  obtain ⟨⟨y0, -⟩, ⟨y1, -⟩⟩ := st_cell bS hl hb
  have BS := Lib.hid bS
  have BI := Lib.hid bI
  have BR := Lib.hid bR
  have hrl := bR.lt
  have hel0 := bS.lt
  have hel1 := bI.lt
  have hE0 := (Ext.refl W).alloc (.cells #[.int .i64 0, .bool false] 78)
  have hE1 := hE0.alloc (.cells #[.int .i64 0, .bool false] 78)
  have j1 := hE0.kept i1
  have j2 := hE0.kept i2
  have l1 := hE1.kept i1
  have l2 := hE1.kept i2
  have X0 := hE0.kept x0
  have X1 := hE0.kept x1
  have Y0 := hE0.kept y0
  have Y1 := hE0.kept y1
  have X0' := hE1.kept x0
  have X1' := hE1.kept x1
  have Y0' := hE1.kept y0
  have Y1' := hE1.kept y1
  clear hE0 hE1
  clear hW hx bS bI bR he
  generalize hka : kg s a = ka at *
  generalize hkb : kg s b = kb at *
  go_cut [7, 8] (fun s7 s8 wx => ∃ p q : Nat, s7 = .pointer (some ⟨p, 0, none⟩) ∧ s8 = .pointer (some ⟨q, 0, none⟩) ∧ Ext W wx ∧ Blk wx p 78 #[.int .i64 ka.bits, .bool ka.sec] ∧ Blk wx q 78 #[.int .i64 kb.bits, .bool kb.sec])
  case first =>
    go_region
    all_goals
      go_wp2
      go_meet
      first
        | exact ⟨_, _, rfl, rfl, (two_k W _ _ _).1, (two_k W _ _ _).2.1, (two_k W _ _ _).2.2⟩
        | exact ⟨_, _, rfl, rfl, (two_k W _ _ _).1, (two_k W _ _ _).2.2, (two_k W _ _ _).2.1⟩
  case rest =>
    obtain ⟨p, q, rfl, rfl, hE, bP, bQ⟩ := hcut
    have X := Lib.hid (X.out.trans hE)
    have bS := BS.out.ext hE
    have bI := BI.out.ext hE
    have bR := BR.out.ext hE
    have hpe : W.heap.size ≤ p → True := fun _ => trivial
    clear x0 x1 y0 y1 X0 X1 Y0 Y1 X0' X1' Y0' Y1' j1 j2 l1 l2 i1 i2 hE BS BI BR hel0 hel1 hrl hpe
    have hne1 : p ≠ e := Blk.ne_ bP bS (by decide)
    have hne2 : q ≠ e := Blk.ne_ bQ bS (by decide)
    have hne3 : e + 1 ≠ e := by omega
    have i1 : wc.cell? ⟨e + 1, 1, none⟩ = some (.int .i64 a) := by rw [bI.cell]; rfl
    have i2 : wc.cell? ⟨e + 1, 2, none⟩ = some (.int .i64 b) := by rw [bI.cell]; rfl
    have i3 : wc.cell? ⟨e + 1, 3, none⟩ = some (.int .i64 c) := by rw [bI.cell]; rfl
    have hrl := bR.lt
    rcases (show c = 1 ∨ c = 2 ∨ c = 3 ∨ c = 4 by omega) with rfl | rfl | rfl | rfl <;> cases holds
    · go_wp2_with (first | ((with_reducible refine load_all bS ?_ Try.underlying80 ?_ ?_ ?_); rfl; rfl; (rw [stV_size hl]; exact infoState')) | ((with_reducible refine store_all bR (stV s) ?_ ?_ ?_ ?_ ?_ ?_); rfl; rfl; (rw [stV_size hl]; rfl); (rw [stV_size hl]; exact infoState'); exact stV_one _))
      have hbr : branchK s ⟨op, a, b, 1, n⟩ false = s := by
        unfold branchK tells1 tells2
        simp [hka, hkb]
        skip
      have hb := bR.stored (stV s) (by rw [stV_size hl]; rfl)
      rw [hbr]
      exact bodyPost_ret (results_blk hb rfl _ rfl Try.underlying80 rfl (by rw [stV_size hl]; exact infoState')) rfl ⟨rfl, X.out.setCells _ (by have := Hew.out; omega) 0⟩
    · go_upto_region 6 with fail
      try clear hwwA
      have k1 : ∀ Wx, Ext wc Wx → Wx.cell? ⟨e + 1, 1, none⟩ = some (.int .i64 a) := fun _ h => h.kept i1
      have kp0 : ∀ Wx, Ext wc Wx → Wx.cell? ⟨p, 0, none⟩ = some (.int .i64 ka.bits) := fun _ h => h.kept (by rw [bP.cell]; rfl)
      have kp1 : ∀ Wx, Ext wc Wx → Wx.cell? ⟨p, 1, none⟩ = some (.bool ka.sec) := fun _ h => h.kept (by rw [bP.cell]; rfl)
      have kq0 : ∀ Wx, Ext wc Wx → Wx.cell? ⟨q, 0, none⟩ = some (.int .i64 kb.bits) := fun _ h => h.kept (by rw [bQ.cell]; rfl)
      have kq1 : ∀ Wx, Ext wc Wx → Wx.cell? ⟨q, 1, none⟩ = some (.bool kb.sec) := fun _ h => h.kept (by rw [bQ.cell]; rfl)
      have HS := Lib.hid bS
      have HP := Lib.hid bP
      have HQ := Lib.hid bQ
      have HI := Lib.hid bI
      have HR := Lib.hid bR
      clear bS bP bQ bI bR i1 i2 i3
      refine region_calm 5 (by kernel_rfl) (by kernel_rfl) ?_
      simp only [List.take_succ_cons, List.take_zero, List.drop_succ_cons, List.drop_zero]
      repeat (first | (refine calm_fresh ?_ ?_ (fun wc hE => ?_) ?_; (decide); rfl; (focus (go_simp; done)); go_simp) | (refine calm_value ?_ ?_ ?_; (decide); (first | rfl | (focus (go_simp; done))); apply Exists.intro; refine ⟨fun wc hE => ?_, ?_⟩; (go_simp; exact rfl); go_simp) | (refine calm_call ?_ ?_ ?_; (decide); (first | rfl | (focus (go_simp; done))); apply Exists.intro; refine ⟨fun wc hE => ?_, ?_⟩; (go_simp; (first | (with_reducible exact calm_enter (less_c ka.bits kb.bits ka.sec kb.sec _)))); go_simp) | (refine calm_skip ?_ ?_ ?_; (decide); (focus (go_simp; done)); go_simp))
      refine calm_nil ?_
      intro wy hx
      have X := Lib.hid (X.out.trans hx)
      have bS := HS.out.ext hx
      have bP := HP.out.ext hx
      have bQ := HQ.out.ext hx
      have bI := HI.out.ext hx
      have bR := HR.out.ext hx
      obtain ⟨rr0, rr1⟩ := st_cell bS hl Ha.out
      have hel := bS.lt
      have hw2 : ∃ w2, (wy.setCell ⟨e, a.toNat * 2, none⟩ (.int .i64 (min (nrm ka.bits) (nrm kb.bits)))).setCell ⟨e, a.toNat * 2 + 1, none⟩ (.bool ka.sec) = w2 ∧ Blk w2 e 80 (stV (kset s a (kless ka kb))) ∧ Blk w2 p 78 #[.int .i64 ka.bits, .bool ka.sec] ∧ Blk w2 q 78 #[.int .i64 kb.bits, .bool kb.sec] ∧ Blk w2 (e + 1) 70 #[.int .i64 op, .int .i64 a, .int .i64 b, .int .i64 1, .int .i64 n] ∧ Blk w2 (e + 1 + 1) 80 #[.int .i64 0, .bool false, .int .i64 0, .bool false, .int .i64 0, .bool false, .int .i64 0, .bool false, .int .i64 0, .bool false, .int .i64 0, .bool false, .int .i64 0, .bool false, .int .i64 0, .bool false] ∧ Ext w w2 := by
        have hb := st_put bS hl Ha.out (kless ka kb)
        exact ⟨_, rfl, hb, (bP.far (p := ⟨e, _, none⟩) hne1 _).far (p := ⟨e, _, none⟩) hne1 _, (bQ.far (p := ⟨e, _, none⟩) hne2 _).far (p := ⟨e, _, none⟩) hne2 _, (bI.far (p := ⟨e, _, none⟩) hne3 _).far (p := ⟨e, _, none⟩) hne3 _, (bR.far (p := ⟨e, _, none⟩) (by simp only; omega) _).far (p := ⟨e, _, none⟩) (by simp only; omega) _, (X.out.setCell (p := ⟨e, _, none⟩) Hew.out _).setCell (p := ⟨e, _, none⟩) Hew.out _⟩
      obtain ⟨w2, hw2, hB⟩ := hw2
      have HB := Lib.hid hB
      clear hB hx k1 kp0 kp1 kq0 kq1 bS bP bQ bI bR
      obtain ⟨bS, bP, bQ, bI, bR, X⟩ := HB.out
      have X := Lib.hid X
      have i1 : w2.cell? ⟨e + 1, 1, none⟩ = some (.int .i64 a) := by rw [bI.cell]; rfl
      have i2 : w2.cell? ⟨e + 1, 2, none⟩ = some (.int .i64 b) := by rw [bI.cell]; rfl
      have i3 : w2.cell? ⟨e + 1, 3, none⟩ = some (.int .i64 1) := by rw [bI.cell]; rfl
      have hel0 := bS.lt
      have hel1 := bR.lt
      have hl : (kset s a (kless ka kb)).length = 8 := by rw [kset_len]; exact hl
      generalize hsA : kset s a (kless ka kb) = sA at *
      clear HB HS HP HQ HI HR
      have hwwA := hw2
      clear hw2
      go_upto_region 8 with fail
      try clear hwwA
      have k1 : ∀ Wx, Ext w2 Wx → Wx.cell? ⟨e + 1, 2, none⟩ = some (.int .i64 b) := fun _ h => h.kept i2
      have kp0 : ∀ Wx, Ext w2 Wx → Wx.cell? ⟨p, 0, none⟩ = some (.int .i64 ka.bits) := fun _ h => h.kept (by rw [bP.cell]; rfl)
      have kp1 : ∀ Wx, Ext w2 Wx → Wx.cell? ⟨p, 1, none⟩ = some (.bool ka.sec) := fun _ h => h.kept (by rw [bP.cell]; rfl)
      have kq0 : ∀ Wx, Ext w2 Wx → Wx.cell? ⟨q, 0, none⟩ = some (.int .i64 kb.bits) := fun _ h => h.kept (by rw [bQ.cell]; rfl)
      have kq1 : ∀ Wx, Ext w2 Wx → Wx.cell? ⟨q, 1, none⟩ = some (.bool kb.sec) := fun _ h => h.kept (by rw [bQ.cell]; rfl)
      have HS := Lib.hid bS
      have HP := Lib.hid bP
      have HQ := Lib.hid bQ
      have HI := Lib.hid bI
      have HR := Lib.hid bR
      clear bS bP bQ bI bR i1 i2 i3
      refine region_calm 5 (by kernel_rfl) (by kernel_rfl) ?_
      simp only [List.take_succ_cons, List.take_zero, List.drop_succ_cons, List.drop_zero]
      repeat (first | (refine calm_fresh ?_ ?_ (fun w2 hE => ?_) ?_; (decide); rfl; (focus (go_simp; done)); go_simp) | (refine calm_value ?_ ?_ ?_; (decide); (first | rfl | (focus (go_simp; done))); apply Exists.intro; refine ⟨fun w2 hE => ?_, ?_⟩; (go_simp; exact rfl); go_simp) | (refine calm_call ?_ ?_ ?_; (decide); (first | rfl | (focus (go_simp; done))); apply Exists.intro; refine ⟨fun w2 hE => ?_, ?_⟩; (go_simp; (first | (with_reducible exact calm_enter (less_c kb.bits ka.bits kb.sec ka.sec _)))); go_simp) | (refine calm_skip ?_ ?_ ?_; (decide); (focus (go_simp; done)); go_simp))
      refine calm_nil ?_
      intro wz hx
      have X := Lib.hid (X.out.trans hx)
      have bS := HS.out.ext hx
      have bP := HP.out.ext hx
      have bQ := HQ.out.ext hx
      have bI := HI.out.ext hx
      have bR := HR.out.ext hx
      obtain ⟨rr0, rr1⟩ := st_cell bS hl Hb.out
      have hel := bS.lt
      have hw2 : ∃ w3, (wz.setCell ⟨e, b.toNat * 2, none⟩ (.int .i64 (min (nrm kb.bits) (nrm ka.bits)))).setCell ⟨e, b.toNat * 2 + 1, none⟩ (.bool kb.sec) = w3 ∧ Blk w3 e 80 (stV (kset sA b (kless kb ka))) ∧ Blk w3 p 78 #[.int .i64 ka.bits, .bool ka.sec] ∧ Blk w3 q 78 #[.int .i64 kb.bits, .bool kb.sec] ∧ Blk w3 (e + 1) 70 #[.int .i64 op, .int .i64 a, .int .i64 b, .int .i64 1, .int .i64 n] ∧ Blk w3 (e + 1 + 1) 80 #[.int .i64 0, .bool false, .int .i64 0, .bool false, .int .i64 0, .bool false, .int .i64 0, .bool false, .int .i64 0, .bool false, .int .i64 0, .bool false, .int .i64 0, .bool false, .int .i64 0, .bool false] ∧ Ext w w3 := by
        have hb := st_put bS hl Hb.out (kless kb ka)
        exact ⟨_, rfl, hb, (bP.far (p := ⟨e, _, none⟩) hne1 _).far (p := ⟨e, _, none⟩) hne1 _, (bQ.far (p := ⟨e, _, none⟩) hne2 _).far (p := ⟨e, _, none⟩) hne2 _, (bI.far (p := ⟨e, _, none⟩) hne3 _).far (p := ⟨e, _, none⟩) hne3 _, (bR.far (p := ⟨e, _, none⟩) (by simp only; omega) _).far (p := ⟨e, _, none⟩) (by simp only; omega) _, (X.out.setCell (p := ⟨e, _, none⟩) Hew.out _).setCell (p := ⟨e, _, none⟩) Hew.out _⟩
      obtain ⟨w3, hw2, hB⟩ := hw2
      have HB := Lib.hid hB
      clear hB hx k1 kp0 kp1 kq0 kq1 bS bP bQ bI bR
      obtain ⟨bS, bP, bQ, bI, bR, X⟩ := HB.out
      have X := Lib.hid X
      have i1 : w3.cell? ⟨e + 1, 1, none⟩ = some (.int .i64 a) := by rw [bI.cell]; rfl
      have i2 : w3.cell? ⟨e + 1, 2, none⟩ = some (.int .i64 b) := by rw [bI.cell]; rfl
      have i3 : w3.cell? ⟨e + 1, 3, none⟩ = some (.int .i64 1) := by rw [bI.cell]; rfl
      have hel0 := bS.lt
      have hel1 := bR.lt
      have hl : (kset sA b (kless kb ka)).length = 8 := by rw [kset_len]; exact hl
      generalize hsB : kset sA b (kless kb ka) = sB at *
      clear HB HS HP HQ HI HR
      have hwwB := hw2
      clear hw2
      go_wp2_with (first | ((with_reducible refine load_all bS ?_ Try.underlying80 ?_ ?_ ?_); rfl; rfl; (rw [stV_size hl]; exact infoState')) | ((with_reducible refine store_all bR (stV sB) ?_ ?_ ?_ ?_ ?_ ?_); rfl; rfl; (rw [stV_size hl]; rfl); (rw [stV_size hl]; exact infoState'); exact stV_one _))
      have hbr : branchK s ⟨op, a, b, 1, n⟩ true = sB := by
        unfold branchK tells1 tells2
        simp [hka, hkb]
        rw [hsA]; exact hsB
      have hb := bR.stored (stV sB) (by rw [stV_size hl]; rfl)
      rw [hbr]
      exact bodyPost_ret (results_blk hb rfl _ rfl Try.underlying80 rfl (by rw [stV_size hl]; exact infoState')) rfl ⟨rfl, X.out.setCells _ (by have := Hew.out; omega) 0⟩
    · go_upto_region 6 with fail
      try clear hwwA
      have k1 : ∀ Wx, Ext wc Wx → Wx.cell? ⟨e + 1, 1, none⟩ = some (.int .i64 a) := fun _ h => h.kept i1
      have kp0 : ∀ Wx, Ext wc Wx → Wx.cell? ⟨p, 0, none⟩ = some (.int .i64 ka.bits) := fun _ h => h.kept (by rw [bP.cell]; rfl)
      have kp1 : ∀ Wx, Ext wc Wx → Wx.cell? ⟨p, 1, none⟩ = some (.bool ka.sec) := fun _ h => h.kept (by rw [bP.cell]; rfl)
      have kq0 : ∀ Wx, Ext wc Wx → Wx.cell? ⟨q, 0, none⟩ = some (.int .i64 kb.bits) := fun _ h => h.kept (by rw [bQ.cell]; rfl)
      have kq1 : ∀ Wx, Ext wc Wx → Wx.cell? ⟨q, 1, none⟩ = some (.bool kb.sec) := fun _ h => h.kept (by rw [bQ.cell]; rfl)
      have HS := Lib.hid bS
      have HP := Lib.hid bP
      have HQ := Lib.hid bQ
      have HI := Lib.hid bI
      have HR := Lib.hid bR
      clear bS bP bQ bI bR i1 i2 i3
      refine region_calm 5 (by kernel_rfl) (by kernel_rfl) ?_
      simp only [List.take_succ_cons, List.take_zero, List.drop_succ_cons, List.drop_zero]
      repeat (first | (refine calm_fresh ?_ ?_ (fun wc hE => ?_) ?_; (decide); rfl; (focus (go_simp; done)); go_simp) | (refine calm_value ?_ ?_ ?_; (decide); (first | rfl | (focus (go_simp; done))); apply Exists.intro; refine ⟨fun wc hE => ?_, ?_⟩; (go_simp; exact rfl); go_simp) | (refine calm_call ?_ ?_ ?_; (decide); (first | rfl | (focus (go_simp; done))); apply Exists.intro; refine ⟨fun wc hE => ?_, ?_⟩; (go_simp; (first | (with_reducible exact calm_enter (less_c ka.bits kb.bits ka.sec kb.sec _)))); go_simp) | (refine calm_skip ?_ ?_ ?_; (decide); (focus (go_simp; done)); go_simp))
      refine calm_nil ?_
      intro wy hx
      have X := Lib.hid (X.out.trans hx)
      have bS := HS.out.ext hx
      have bP := HP.out.ext hx
      have bQ := HQ.out.ext hx
      have bI := HI.out.ext hx
      have bR := HR.out.ext hx
      obtain ⟨rr0, rr1⟩ := st_cell bS hl Ha.out
      have hel := bS.lt
      have hw2 : ∃ w2, (wy.setCell ⟨e, a.toNat * 2, none⟩ (.int .i64 (min (nrm ka.bits) (nrm kb.bits)))).setCell ⟨e, a.toNat * 2 + 1, none⟩ (.bool ka.sec) = w2 ∧ Blk w2 e 80 (stV (kset s a (kless ka kb))) ∧ Blk w2 p 78 #[.int .i64 ka.bits, .bool ka.sec] ∧ Blk w2 q 78 #[.int .i64 kb.bits, .bool kb.sec] ∧ Blk w2 (e + 1) 70 #[.int .i64 op, .int .i64 a, .int .i64 b, .int .i64 2, .int .i64 n] ∧ Blk w2 (e + 1 + 1) 80 #[.int .i64 0, .bool false, .int .i64 0, .bool false, .int .i64 0, .bool false, .int .i64 0, .bool false, .int .i64 0, .bool false, .int .i64 0, .bool false, .int .i64 0, .bool false, .int .i64 0, .bool false] ∧ Ext w w2 := by
        have hb := st_put bS hl Ha.out (kless ka kb)
        exact ⟨_, rfl, hb, (bP.far (p := ⟨e, _, none⟩) hne1 _).far (p := ⟨e, _, none⟩) hne1 _, (bQ.far (p := ⟨e, _, none⟩) hne2 _).far (p := ⟨e, _, none⟩) hne2 _, (bI.far (p := ⟨e, _, none⟩) hne3 _).far (p := ⟨e, _, none⟩) hne3 _, (bR.far (p := ⟨e, _, none⟩) (by simp only; omega) _).far (p := ⟨e, _, none⟩) (by simp only; omega) _, (X.out.setCell (p := ⟨e, _, none⟩) Hew.out _).setCell (p := ⟨e, _, none⟩) Hew.out _⟩
      obtain ⟨w2, hw2, hB⟩ := hw2
      have HB := Lib.hid hB
      clear hB hx k1 kp0 kp1 kq0 kq1 bS bP bQ bI bR
      obtain ⟨bS, bP, bQ, bI, bR, X⟩ := HB.out
      have X := Lib.hid X
      have i1 : w2.cell? ⟨e + 1, 1, none⟩ = some (.int .i64 a) := by rw [bI.cell]; rfl
      have i2 : w2.cell? ⟨e + 1, 2, none⟩ = some (.int .i64 b) := by rw [bI.cell]; rfl
      have i3 : w2.cell? ⟨e + 1, 3, none⟩ = some (.int .i64 2) := by rw [bI.cell]; rfl
      have hel0 := bS.lt
      have hel1 := bR.lt
      have hl : (kset s a (kless ka kb)).length = 8 := by rw [kset_len]; exact hl
      generalize hsA : kset s a (kless ka kb) = sA at *
      clear HB HS HP HQ HI HR
      have hwwA := hw2
      clear hw2
      go_upto_region 8 with fail
      try clear hwwA
      have k1 : ∀ Wx, Ext w2 Wx → Wx.cell? ⟨e + 1, 2, none⟩ = some (.int .i64 b) := fun _ h => h.kept i2
      have kp0 : ∀ Wx, Ext w2 Wx → Wx.cell? ⟨p, 0, none⟩ = some (.int .i64 ka.bits) := fun _ h => h.kept (by rw [bP.cell]; rfl)
      have kp1 : ∀ Wx, Ext w2 Wx → Wx.cell? ⟨p, 1, none⟩ = some (.bool ka.sec) := fun _ h => h.kept (by rw [bP.cell]; rfl)
      have kq0 : ∀ Wx, Ext w2 Wx → Wx.cell? ⟨q, 0, none⟩ = some (.int .i64 kb.bits) := fun _ h => h.kept (by rw [bQ.cell]; rfl)
      have kq1 : ∀ Wx, Ext w2 Wx → Wx.cell? ⟨q, 1, none⟩ = some (.bool kb.sec) := fun _ h => h.kept (by rw [bQ.cell]; rfl)
      have HS := Lib.hid bS
      have HP := Lib.hid bP
      have HQ := Lib.hid bQ
      have HI := Lib.hid bI
      have HR := Lib.hid bR
      clear bS bP bQ bI bR i1 i2 i3
      refine region_calm 5 (by kernel_rfl) (by kernel_rfl) ?_
      simp only [List.take_succ_cons, List.take_zero, List.drop_succ_cons, List.drop_zero]
      repeat (first | (refine calm_fresh ?_ ?_ (fun w2 hE => ?_) ?_; (decide); rfl; (focus (go_simp; done)); go_simp) | (refine calm_value ?_ ?_ ?_; (decide); (first | rfl | (focus (go_simp; done))); apply Exists.intro; refine ⟨fun w2 hE => ?_, ?_⟩; (go_simp; exact rfl); go_simp) | (refine calm_call ?_ ?_ ?_; (decide); (first | rfl | (focus (go_simp; done))); apply Exists.intro; refine ⟨fun w2 hE => ?_, ?_⟩; (go_simp; (first | (with_reducible exact calm_enter (less_c kb.bits ka.bits kb.sec ka.sec _)))); go_simp) | (refine calm_skip ?_ ?_ ?_; (decide); (focus (go_simp; done)); go_simp))
      refine calm_nil ?_
      intro wz hx
      have X := Lib.hid (X.out.trans hx)
      have bS := HS.out.ext hx
      have bP := HP.out.ext hx
      have bQ := HQ.out.ext hx
      have bI := HI.out.ext hx
      have bR := HR.out.ext hx
      obtain ⟨rr0, rr1⟩ := st_cell bS hl Hb.out
      have hel := bS.lt
      have hw2 : ∃ w3, (wz.setCell ⟨e, b.toNat * 2, none⟩ (.int .i64 (min (nrm kb.bits) (nrm ka.bits)))).setCell ⟨e, b.toNat * 2 + 1, none⟩ (.bool kb.sec) = w3 ∧ Blk w3 e 80 (stV (kset sA b (kless kb ka))) ∧ Blk w3 p 78 #[.int .i64 ka.bits, .bool ka.sec] ∧ Blk w3 q 78 #[.int .i64 kb.bits, .bool kb.sec] ∧ Blk w3 (e + 1) 70 #[.int .i64 op, .int .i64 a, .int .i64 b, .int .i64 2, .int .i64 n] ∧ Blk w3 (e + 1 + 1) 80 #[.int .i64 0, .bool false, .int .i64 0, .bool false, .int .i64 0, .bool false, .int .i64 0, .bool false, .int .i64 0, .bool false, .int .i64 0, .bool false, .int .i64 0, .bool false, .int .i64 0, .bool false] ∧ Ext w w3 := by
        have hb := st_put bS hl Hb.out (kless kb ka)
        exact ⟨_, rfl, hb, (bP.far (p := ⟨e, _, none⟩) hne1 _).far (p := ⟨e, _, none⟩) hne1 _, (bQ.far (p := ⟨e, _, none⟩) hne2 _).far (p := ⟨e, _, none⟩) hne2 _, (bI.far (p := ⟨e, _, none⟩) hne3 _).far (p := ⟨e, _, none⟩) hne3 _, (bR.far (p := ⟨e, _, none⟩) (by simp only; omega) _).far (p := ⟨e, _, none⟩) (by simp only; omega) _, (X.out.setCell (p := ⟨e, _, none⟩) Hew.out _).setCell (p := ⟨e, _, none⟩) Hew.out _⟩
      obtain ⟨w3, hw2, hB⟩ := hw2
      have HB := Lib.hid hB
      clear hB hx k1 kp0 kp1 kq0 kq1 bS bP bQ bI bR
      obtain ⟨bS, bP, bQ, bI, bR, X⟩ := HB.out
      have X := Lib.hid X
      have i1 : w3.cell? ⟨e + 1, 1, none⟩ = some (.int .i64 a) := by rw [bI.cell]; rfl
      have i2 : w3.cell? ⟨e + 1, 2, none⟩ = some (.int .i64 b) := by rw [bI.cell]; rfl
      have i3 : w3.cell? ⟨e + 1, 3, none⟩ = some (.int .i64 2) := by rw [bI.cell]; rfl
      have hel0 := bS.lt
      have hel1 := bR.lt
      have hl : (kset sA b (kless kb ka)).length = 8 := by rw [kset_len]; exact hl
      generalize hsB : kset sA b (kless kb ka) = sB at *
      clear HB HS HP HQ HI HR
      have hwwB := hw2
      clear hw2
      go_wp2_with (first | ((with_reducible refine load_all bS ?_ Try.underlying80 ?_ ?_ ?_); rfl; rfl; (rw [stV_size hl]; exact infoState')) | ((with_reducible refine store_all bR (stV sB) ?_ ?_ ?_ ?_ ?_ ?_); rfl; rfl; (rw [stV_size hl]; rfl); (rw [stV_size hl]; exact infoState'); exact stV_one _))
      have hbr : branchK s ⟨op, a, b, 2, n⟩ false = sB := by
        unfold branchK tells1 tells2
        simp [hka, hkb]
        rw [hsA]; exact hsB
      have hb := bR.stored (stV sB) (by rw [stV_size hl]; rfl)
      rw [hbr]
      exact bodyPost_ret (results_blk hb rfl _ rfl Try.underlying80 rfl (by rw [stV_size hl]; exact infoState')) rfl ⟨rfl, X.out.setCells _ (by have := Hew.out; omega) 0⟩
    · go_wp2_with (first | ((with_reducible refine load_all bS ?_ Try.underlying80 ?_ ?_ ?_); rfl; rfl; (rw [stV_size hl]; exact infoState')) | ((with_reducible refine store_all bR (stV s) ?_ ?_ ?_ ?_ ?_ ?_); rfl; rfl; (rw [stV_size hl]; rfl); (rw [stV_size hl]; exact infoState'); exact stV_one _))
      have hbr : branchK s ⟨op, a, b, 2, n⟩ true = s := by
        unfold branchK tells1 tells2
        simp [hka, hkb]
        skip
      have hb := bR.stored (stV s) (by rw [stV_size hl]; rfl)
      rw [hbr]
      exact bodyPost_ret (results_blk hb rfl _ rfl Try.underlying80 rfl (by rw [stV_size hl]; exact infoState')) rfl ⟨rfl, X.out.setCells _ (by have := Hew.out; omega) 0⟩
    · go_upto_region 8 with fail
      try clear hwwA
      have k1 : ∀ Wx, Ext wc Wx → Wx.cell? ⟨e + 1, 2, none⟩ = some (.int .i64 b) := fun _ h => h.kept i2
      have kp0 : ∀ Wx, Ext wc Wx → Wx.cell? ⟨p, 0, none⟩ = some (.int .i64 ka.bits) := fun _ h => h.kept (by rw [bP.cell]; rfl)
      have kp1 : ∀ Wx, Ext wc Wx → Wx.cell? ⟨p, 1, none⟩ = some (.bool ka.sec) := fun _ h => h.kept (by rw [bP.cell]; rfl)
      have kq0 : ∀ Wx, Ext wc Wx → Wx.cell? ⟨q, 0, none⟩ = some (.int .i64 kb.bits) := fun _ h => h.kept (by rw [bQ.cell]; rfl)
      have kq1 : ∀ Wx, Ext wc Wx → Wx.cell? ⟨q, 1, none⟩ = some (.bool kb.sec) := fun _ h => h.kept (by rw [bQ.cell]; rfl)
      have HS := Lib.hid bS
      have HP := Lib.hid bP
      have HQ := Lib.hid bQ
      have HI := Lib.hid bI
      have HR := Lib.hid bR
      clear bS bP bQ bI bR i1 i2 i3
      refine region_calm 5 (by kernel_rfl) (by kernel_rfl) ?_
      simp only [List.take_succ_cons, List.take_zero, List.drop_succ_cons, List.drop_zero]
      repeat (first | (refine calm_fresh ?_ ?_ (fun wc hE => ?_) ?_; (decide); rfl; (focus (go_simp; done)); go_simp) | (refine calm_value ?_ ?_ ?_; (decide); (first | rfl | (focus (go_simp; done))); apply Exists.intro; refine ⟨fun wc hE => ?_, ?_⟩; (go_simp; exact rfl); go_simp) | (refine calm_call ?_ ?_ ?_; (decide); (first | rfl | (focus (go_simp; done))); apply Exists.intro; refine ⟨fun wc hE => ?_, ?_⟩; (go_simp; (first | (with_reducible exact calm_enter (less_c kb.bits ka.bits kb.sec ka.sec _)))); go_simp) | (refine calm_skip ?_ ?_ ?_; (decide); (focus (go_simp; done)); go_simp))
      refine calm_nil ?_
      intro wy hx
      have X := Lib.hid (X.out.trans hx)
      have bS := HS.out.ext hx
      have bP := HP.out.ext hx
      have bQ := HQ.out.ext hx
      have bI := HI.out.ext hx
      have bR := HR.out.ext hx
      obtain ⟨rr0, rr1⟩ := st_cell bS hl Hb.out
      have hel := bS.lt
      have hw2 : ∃ w2, (wy.setCell ⟨e, b.toNat * 2, none⟩ (.int .i64 (min (nrm kb.bits) (nrm ka.bits)))).setCell ⟨e, b.toNat * 2 + 1, none⟩ (.bool kb.sec) = w2 ∧ Blk w2 e 80 (stV (kset s b (kless kb ka))) ∧ Blk w2 p 78 #[.int .i64 ka.bits, .bool ka.sec] ∧ Blk w2 q 78 #[.int .i64 kb.bits, .bool kb.sec] ∧ Blk w2 (e + 1) 70 #[.int .i64 op, .int .i64 a, .int .i64 b, .int .i64 3, .int .i64 n] ∧ Blk w2 (e + 1 + 1) 80 #[.int .i64 0, .bool false, .int .i64 0, .bool false, .int .i64 0, .bool false, .int .i64 0, .bool false, .int .i64 0, .bool false, .int .i64 0, .bool false, .int .i64 0, .bool false, .int .i64 0, .bool false] ∧ Ext w w2 := by
        have hb := st_put bS hl Hb.out (kless kb ka)
        exact ⟨_, rfl, hb, (bP.far (p := ⟨e, _, none⟩) hne1 _).far (p := ⟨e, _, none⟩) hne1 _, (bQ.far (p := ⟨e, _, none⟩) hne2 _).far (p := ⟨e, _, none⟩) hne2 _, (bI.far (p := ⟨e, _, none⟩) hne3 _).far (p := ⟨e, _, none⟩) hne3 _, (bR.far (p := ⟨e, _, none⟩) (by simp only; omega) _).far (p := ⟨e, _, none⟩) (by simp only; omega) _, (X.out.setCell (p := ⟨e, _, none⟩) Hew.out _).setCell (p := ⟨e, _, none⟩) Hew.out _⟩
      obtain ⟨w2, hw2, hB⟩ := hw2
      have HB := Lib.hid hB
      clear hB hx k1 kp0 kp1 kq0 kq1 bS bP bQ bI bR
      obtain ⟨bS, bP, bQ, bI, bR, X⟩ := HB.out
      have X := Lib.hid X
      have i1 : w2.cell? ⟨e + 1, 1, none⟩ = some (.int .i64 a) := by rw [bI.cell]; rfl
      have i2 : w2.cell? ⟨e + 1, 2, none⟩ = some (.int .i64 b) := by rw [bI.cell]; rfl
      have i3 : w2.cell? ⟨e + 1, 3, none⟩ = some (.int .i64 3) := by rw [bI.cell]; rfl
      have hel0 := bS.lt
      have hel1 := bR.lt
      have hl : (kset s b (kless kb ka)).length = 8 := by rw [kset_len]; exact hl
      generalize hsB : kset s b (kless kb ka) = sB at *
      clear HB HS HP HQ HI HR
      have hwwB := hw2
      clear hw2
      go_wp2_with (first | ((with_reducible refine load_all bS ?_ Try.underlying80 ?_ ?_ ?_); rfl; rfl; (rw [stV_size hl]; exact infoState')) | ((with_reducible refine store_all bR (stV sB) ?_ ?_ ?_ ?_ ?_ ?_); rfl; rfl; (rw [stV_size hl]; rfl); (rw [stV_size hl]; exact infoState'); exact stV_one _))
      have hbr : branchK s ⟨op, a, b, 3, n⟩ false = sB := by
        unfold branchK tells1 tells2
        simp [hka, hkb]
        exact hsB
      have hb := bR.stored (stV sB) (by rw [stV_size hl]; rfl)
      rw [hbr]
      exact bodyPost_ret (results_blk hb rfl _ rfl Try.underlying80 rfl (by rw [stV_size hl]; exact infoState')) rfl ⟨rfl, X.out.setCells _ (by have := Hew.out; omega) 0⟩
    · go_upto_region 6 with fail
      try clear hwwA
      have k1 : ∀ Wx, Ext wc Wx → Wx.cell? ⟨e + 1, 1, none⟩ = some (.int .i64 a) := fun _ h => h.kept i1
      have kp0 : ∀ Wx, Ext wc Wx → Wx.cell? ⟨p, 0, none⟩ = some (.int .i64 ka.bits) := fun _ h => h.kept (by rw [bP.cell]; rfl)
      have kp1 : ∀ Wx, Ext wc Wx → Wx.cell? ⟨p, 1, none⟩ = some (.bool ka.sec) := fun _ h => h.kept (by rw [bP.cell]; rfl)
      have kq0 : ∀ Wx, Ext wc Wx → Wx.cell? ⟨q, 0, none⟩ = some (.int .i64 kb.bits) := fun _ h => h.kept (by rw [bQ.cell]; rfl)
      have kq1 : ∀ Wx, Ext wc Wx → Wx.cell? ⟨q, 1, none⟩ = some (.bool kb.sec) := fun _ h => h.kept (by rw [bQ.cell]; rfl)
      have HS := Lib.hid bS
      have HP := Lib.hid bP
      have HQ := Lib.hid bQ
      have HI := Lib.hid bI
      have HR := Lib.hid bR
      clear bS bP bQ bI bR i1 i2 i3
      refine region_calm 5 (by kernel_rfl) (by kernel_rfl) ?_
      simp only [List.take_succ_cons, List.take_zero, List.drop_succ_cons, List.drop_zero]
      repeat (first | (refine calm_fresh ?_ ?_ (fun wc hE => ?_) ?_; (decide); rfl; (focus (go_simp; done)); go_simp) | (refine calm_value ?_ ?_ ?_; (decide); (first | rfl | (focus (go_simp; done))); apply Exists.intro; refine ⟨fun wc hE => ?_, ?_⟩; (go_simp; exact rfl); go_simp) | (refine calm_call ?_ ?_ ?_; (decide); (first | rfl | (focus (go_simp; done))); apply Exists.intro; refine ⟨fun wc hE => ?_, ?_⟩; (go_simp; (first | (with_reducible exact calm_enter (less_c ka.bits kb.bits ka.sec kb.sec _)))); go_simp) | (refine calm_skip ?_ ?_ ?_; (decide); (focus (go_simp; done)); go_simp))
      refine calm_nil ?_
      intro wy hx
      have X := Lib.hid (X.out.trans hx)
      have bS := HS.out.ext hx
      have bP := HP.out.ext hx
      have bQ := HQ.out.ext hx
      have bI := HI.out.ext hx
      have bR := HR.out.ext hx
      obtain ⟨rr0, rr1⟩ := st_cell bS hl Ha.out
      have hel := bS.lt
      have hw2 : ∃ w2, (wy.setCell ⟨e, a.toNat * 2, none⟩ (.int .i64 (min (nrm ka.bits) (nrm kb.bits)))).setCell ⟨e, a.toNat * 2 + 1, none⟩ (.bool ka.sec) = w2 ∧ Blk w2 e 80 (stV (kset s a (kless ka kb))) ∧ Blk w2 p 78 #[.int .i64 ka.bits, .bool ka.sec] ∧ Blk w2 q 78 #[.int .i64 kb.bits, .bool kb.sec] ∧ Blk w2 (e + 1) 70 #[.int .i64 op, .int .i64 a, .int .i64 b, .int .i64 3, .int .i64 n] ∧ Blk w2 (e + 1 + 1) 80 #[.int .i64 0, .bool false, .int .i64 0, .bool false, .int .i64 0, .bool false, .int .i64 0, .bool false, .int .i64 0, .bool false, .int .i64 0, .bool false, .int .i64 0, .bool false, .int .i64 0, .bool false] ∧ Ext w w2 := by
        have hb := st_put bS hl Ha.out (kless ka kb)
        exact ⟨_, rfl, hb, (bP.far (p := ⟨e, _, none⟩) hne1 _).far (p := ⟨e, _, none⟩) hne1 _, (bQ.far (p := ⟨e, _, none⟩) hne2 _).far (p := ⟨e, _, none⟩) hne2 _, (bI.far (p := ⟨e, _, none⟩) hne3 _).far (p := ⟨e, _, none⟩) hne3 _, (bR.far (p := ⟨e, _, none⟩) (by simp only; omega) _).far (p := ⟨e, _, none⟩) (by simp only; omega) _, (X.out.setCell (p := ⟨e, _, none⟩) Hew.out _).setCell (p := ⟨e, _, none⟩) Hew.out _⟩
      obtain ⟨w2, hw2, hB⟩ := hw2
      have HB := Lib.hid hB
      clear hB hx k1 kp0 kp1 kq0 kq1 bS bP bQ bI bR
      obtain ⟨bS, bP, bQ, bI, bR, X⟩ := HB.out
      have X := Lib.hid X
      have i1 : w2.cell? ⟨e + 1, 1, none⟩ = some (.int .i64 a) := by rw [bI.cell]; rfl
      have i2 : w2.cell? ⟨e + 1, 2, none⟩ = some (.int .i64 b) := by rw [bI.cell]; rfl
      have i3 : w2.cell? ⟨e + 1, 3, none⟩ = some (.int .i64 3) := by rw [bI.cell]; rfl
      have hel0 := bS.lt
      have hel1 := bR.lt
      have hl : (kset s a (kless ka kb)).length = 8 := by rw [kset_len]; exact hl
      generalize hsA : kset s a (kless ka kb) = sA at *
      clear HB HS HP HQ HI HR
      have hwwA := hw2
      clear hw2
      go_wp2_with (first | ((with_reducible refine load_all bS ?_ Try.underlying80 ?_ ?_ ?_); rfl; rfl; (rw [stV_size hl]; exact infoState')) | ((with_reducible refine store_all bR (stV sA) ?_ ?_ ?_ ?_ ?_ ?_); rfl; rfl; (rw [stV_size hl]; rfl); (rw [stV_size hl]; exact infoState'); exact stV_one _))
      have hbr : branchK s ⟨op, a, b, 3, n⟩ true = sA := by
        unfold branchK tells1 tells2
        simp [hka, hkb]
        exact hsA
      have hb := bR.stored (stV sA) (by rw [stV_size hl]; rfl)
      rw [hbr]
      exact bodyPost_ret (results_blk hb rfl _ rfl Try.underlying80 rfl (by rw [stV_size hl]; exact infoState')) rfl ⟨rfl, X.out.setCells _ (by have := Hew.out; omega) 0⟩
    · go_upto_region 6 with fail
      try clear hwwA
      have k1 : ∀ Wx, Ext wc Wx → Wx.cell? ⟨e + 1, 1, none⟩ = some (.int .i64 a) := fun _ h => h.kept i1
      have kp0 : ∀ Wx, Ext wc Wx → Wx.cell? ⟨p, 0, none⟩ = some (.int .i64 ka.bits) := fun _ h => h.kept (by rw [bP.cell]; rfl)
      have kp1 : ∀ Wx, Ext wc Wx → Wx.cell? ⟨p, 1, none⟩ = some (.bool ka.sec) := fun _ h => h.kept (by rw [bP.cell]; rfl)
      have kq0 : ∀ Wx, Ext wc Wx → Wx.cell? ⟨q, 0, none⟩ = some (.int .i64 kb.bits) := fun _ h => h.kept (by rw [bQ.cell]; rfl)
      have kq1 : ∀ Wx, Ext wc Wx → Wx.cell? ⟨q, 1, none⟩ = some (.bool kb.sec) := fun _ h => h.kept (by rw [bQ.cell]; rfl)
      have HS := Lib.hid bS
      have HP := Lib.hid bP
      have HQ := Lib.hid bQ
      have HI := Lib.hid bI
      have HR := Lib.hid bR
      clear bS bP bQ bI bR i1 i2 i3
      refine region_calm 5 (by kernel_rfl) (by kernel_rfl) ?_
      simp only [List.take_succ_cons, List.take_zero, List.drop_succ_cons, List.drop_zero]
      repeat (first | (refine calm_fresh ?_ ?_ (fun wc hE => ?_) ?_; (decide); rfl; (focus (go_simp; done)); go_simp) | (refine calm_value ?_ ?_ ?_; (decide); (first | rfl | (focus (go_simp; done))); apply Exists.intro; refine ⟨fun wc hE => ?_, ?_⟩; (go_simp; exact rfl); go_simp) | (refine calm_call ?_ ?_ ?_; (decide); (first | rfl | (focus (go_simp; done))); apply Exists.intro; refine ⟨fun wc hE => ?_, ?_⟩; (go_simp; (first | (with_reducible exact calm_enter (less_c ka.bits kb.bits ka.sec kb.sec _)))); go_simp) | (refine calm_skip ?_ ?_ ?_; (decide); (focus (go_simp; done)); go_simp))
      refine calm_nil ?_
      intro wy hx
      have X := Lib.hid (X.out.trans hx)
      have bS := HS.out.ext hx
      have bP := HP.out.ext hx
      have bQ := HQ.out.ext hx
      have bI := HI.out.ext hx
      have bR := HR.out.ext hx
      obtain ⟨rr0, rr1⟩ := st_cell bS hl Ha.out
      have hel := bS.lt
      have hw2 : ∃ w2, (wy.setCell ⟨e, a.toNat * 2, none⟩ (.int .i64 (min (nrm ka.bits) (nrm kb.bits)))).setCell ⟨e, a.toNat * 2 + 1, none⟩ (.bool ka.sec) = w2 ∧ Blk w2 e 80 (stV (kset s a (kless ka kb))) ∧ Blk w2 p 78 #[.int .i64 ka.bits, .bool ka.sec] ∧ Blk w2 q 78 #[.int .i64 kb.bits, .bool kb.sec] ∧ Blk w2 (e + 1) 70 #[.int .i64 op, .int .i64 a, .int .i64 b, .int .i64 4, .int .i64 n] ∧ Blk w2 (e + 1 + 1) 80 #[.int .i64 0, .bool false, .int .i64 0, .bool false, .int .i64 0, .bool false, .int .i64 0, .bool false, .int .i64 0, .bool false, .int .i64 0, .bool false, .int .i64 0, .bool false, .int .i64 0, .bool false] ∧ Ext w w2 := by
        have hb := st_put bS hl Ha.out (kless ka kb)
        exact ⟨_, rfl, hb, (bP.far (p := ⟨e, _, none⟩) hne1 _).far (p := ⟨e, _, none⟩) hne1 _, (bQ.far (p := ⟨e, _, none⟩) hne2 _).far (p := ⟨e, _, none⟩) hne2 _, (bI.far (p := ⟨e, _, none⟩) hne3 _).far (p := ⟨e, _, none⟩) hne3 _, (bR.far (p := ⟨e, _, none⟩) (by simp only; omega) _).far (p := ⟨e, _, none⟩) (by simp only; omega) _, (X.out.setCell (p := ⟨e, _, none⟩) Hew.out _).setCell (p := ⟨e, _, none⟩) Hew.out _⟩
      obtain ⟨w2, hw2, hB⟩ := hw2
      have HB := Lib.hid hB
      clear hB hx k1 kp0 kp1 kq0 kq1 bS bP bQ bI bR
      obtain ⟨bS, bP, bQ, bI, bR, X⟩ := HB.out
      have X := Lib.hid X
      have i1 : w2.cell? ⟨e + 1, 1, none⟩ = some (.int .i64 a) := by rw [bI.cell]; rfl
      have i2 : w2.cell? ⟨e + 1, 2, none⟩ = some (.int .i64 b) := by rw [bI.cell]; rfl
      have i3 : w2.cell? ⟨e + 1, 3, none⟩ = some (.int .i64 4) := by rw [bI.cell]; rfl
      have hel0 := bS.lt
      have hel1 := bR.lt
      have hl : (kset s a (kless ka kb)).length = 8 := by rw [kset_len]; exact hl
      generalize hsA : kset s a (kless ka kb) = sA at *
      clear HB HS HP HQ HI HR
      have hwwA := hw2
      clear hw2
      go_wp2_with (first | ((with_reducible refine load_all bS ?_ Try.underlying80 ?_ ?_ ?_); rfl; rfl; (rw [stV_size hl]; exact infoState')) | ((with_reducible refine store_all bR (stV sA) ?_ ?_ ?_ ?_ ?_ ?_); rfl; rfl; (rw [stV_size hl]; rfl); (rw [stV_size hl]; exact infoState'); exact stV_one _))
      have hbr : branchK s ⟨op, a, b, 4, n⟩ false = sA := by
        unfold branchK tells1 tells2
        simp [hka, hkb]
        exact hsA
      have hb := bR.stored (stV sA) (by rw [stV_size hl]; rfl)
      rw [hbr]
      exact bodyPost_ret (results_blk hb rfl _ rfl Try.underlying80 rfl (by rw [stV_size hl]; exact infoState')) rfl ⟨rfl, X.out.setCells _ (by have := Hew.out; omega) 0⟩
    · go_upto_region 8 with fail
      try clear hwwA
      have k1 : ∀ Wx, Ext wc Wx → Wx.cell? ⟨e + 1, 2, none⟩ = some (.int .i64 b) := fun _ h => h.kept i2
      have kp0 : ∀ Wx, Ext wc Wx → Wx.cell? ⟨p, 0, none⟩ = some (.int .i64 ka.bits) := fun _ h => h.kept (by rw [bP.cell]; rfl)
      have kp1 : ∀ Wx, Ext wc Wx → Wx.cell? ⟨p, 1, none⟩ = some (.bool ka.sec) := fun _ h => h.kept (by rw [bP.cell]; rfl)
      have kq0 : ∀ Wx, Ext wc Wx → Wx.cell? ⟨q, 0, none⟩ = some (.int .i64 kb.bits) := fun _ h => h.kept (by rw [bQ.cell]; rfl)
      have kq1 : ∀ Wx, Ext wc Wx → Wx.cell? ⟨q, 1, none⟩ = some (.bool kb.sec) := fun _ h => h.kept (by rw [bQ.cell]; rfl)
      have HS := Lib.hid bS
      have HP := Lib.hid bP
      have HQ := Lib.hid bQ
      have HI := Lib.hid bI
      have HR := Lib.hid bR
      clear bS bP bQ bI bR i1 i2 i3
      refine region_calm 5 (by kernel_rfl) (by kernel_rfl) ?_
      simp only [List.take_succ_cons, List.take_zero, List.drop_succ_cons, List.drop_zero]
      repeat (first | (refine calm_fresh ?_ ?_ (fun wc hE => ?_) ?_; (decide); rfl; (focus (go_simp; done)); go_simp) | (refine calm_value ?_ ?_ ?_; (decide); (first | rfl | (focus (go_simp; done))); apply Exists.intro; refine ⟨fun wc hE => ?_, ?_⟩; (go_simp; exact rfl); go_simp) | (refine calm_call ?_ ?_ ?_; (decide); (first | rfl | (focus (go_simp; done))); apply Exists.intro; refine ⟨fun wc hE => ?_, ?_⟩; (go_simp; (first | (with_reducible exact calm_enter (less_c kb.bits ka.bits kb.sec ka.sec _)))); go_simp) | (refine calm_skip ?_ ?_ ?_; (decide); (focus (go_simp; done)); go_simp))
      refine calm_nil ?_
      intro wy hx
      have X := Lib.hid (X.out.trans hx)
      have bS := HS.out.ext hx
      have bP := HP.out.ext hx
      have bQ := HQ.out.ext hx
      have bI := HI.out.ext hx
      have bR := HR.out.ext hx
      obtain ⟨rr0, rr1⟩ := st_cell bS hl Hb.out
      have hel := bS.lt
      have hw2 : ∃ w2, (wy.setCell ⟨e, b.toNat * 2, none⟩ (.int .i64 (min (nrm kb.bits) (nrm ka.bits)))).setCell ⟨e, b.toNat * 2 + 1, none⟩ (.bool kb.sec) = w2 ∧ Blk w2 e 80 (stV (kset s b (kless kb ka))) ∧ Blk w2 p 78 #[.int .i64 ka.bits, .bool ka.sec] ∧ Blk w2 q 78 #[.int .i64 kb.bits, .bool kb.sec] ∧ Blk w2 (e + 1) 70 #[.int .i64 op, .int .i64 a, .int .i64 b, .int .i64 4, .int .i64 n] ∧ Blk w2 (e + 1 + 1) 80 #[.int .i64 0, .bool false, .int .i64 0, .bool false, .int .i64 0, .bool false, .int .i64 0, .bool false, .int .i64 0, .bool false, .int .i64 0, .bool false, .int .i64 0, .bool false, .int .i64 0, .bool false] ∧ Ext w w2 := by
        have hb := st_put bS hl Hb.out (kless kb ka)
        exact ⟨_, rfl, hb, (bP.far (p := ⟨e, _, none⟩) hne1 _).far (p := ⟨e, _, none⟩) hne1 _, (bQ.far (p := ⟨e, _, none⟩) hne2 _).far (p := ⟨e, _, none⟩) hne2 _, (bI.far (p := ⟨e, _, none⟩) hne3 _).far (p := ⟨e, _, none⟩) hne3 _, (bR.far (p := ⟨e, _, none⟩) (by simp only; omega) _).far (p := ⟨e, _, none⟩) (by simp only; omega) _, (X.out.setCell (p := ⟨e, _, none⟩) Hew.out _).setCell (p := ⟨e, _, none⟩) Hew.out _⟩
      obtain ⟨w2, hw2, hB⟩ := hw2
      have HB := Lib.hid hB
      clear hB hx k1 kp0 kp1 kq0 kq1 bS bP bQ bI bR
      obtain ⟨bS, bP, bQ, bI, bR, X⟩ := HB.out
      have X := Lib.hid X
      have i1 : w2.cell? ⟨e + 1, 1, none⟩ = some (.int .i64 a) := by rw [bI.cell]; rfl
      have i2 : w2.cell? ⟨e + 1, 2, none⟩ = some (.int .i64 b) := by rw [bI.cell]; rfl
      have i3 : w2.cell? ⟨e + 1, 3, none⟩ = some (.int .i64 4) := by rw [bI.cell]; rfl
      have hel0 := bS.lt
      have hel1 := bR.lt
      have hl : (kset s b (kless kb ka)).length = 8 := by rw [kset_len]; exact hl
      generalize hsB : kset s b (kless kb ka) = sB at *
      clear HB HS HP HQ HI HR
      have hwwB := hw2
      clear hw2
      go_wp2_with (first | ((with_reducible refine load_all bS ?_ Try.underlying80 ?_ ?_ ?_); rfl; rfl; (rw [stV_size hl]; exact infoState')) | ((with_reducible refine store_all bR (stV sB) ?_ ?_ ?_ ?_ ?_ ?_); rfl; rfl; (rw [stV_size hl]; rfl); (rw [stV_size hl]; exact infoState'); exact stV_one _))
      have hbr : branchK s ⟨op, a, b, 4, n⟩ true = sB := by
        unfold branchK tells1 tells2
        simp [hka, hkb]
        exact hsB
      have hb := bR.stored (stV sB) (by rw [stV_size hl]; rfl)
      rw [hbr]
      exact bodyPost_ret (results_blk hb rfl _ rfl Try.underlying80 rfl (by rw [stV_size hl]; exact infoState')) rfl ⟨rfl, X.out.setCells _ (by have := Hew.out; omega) 0⟩
end Go.Proofs.Yteiknefajlocoaa
/- Walks of layout's look, May, Hard, Fits. -/
namespace Go.Proofs.Yteiknefajlocoaa
open Go.ChangeShapes Go.WideShapes Go.ChangeAt Go.RowKit
set_option linter.unusedVariables false
set_option linter.unusedSimpArgs false

theorem Rows.upd {w w' : World} {oa : Option Addr} {b o n c : Nat} {f : Nat → Nat → Value} {p : Addr} {v : Value} (h : Rows w oa b o n c f) (hp : p.block ≠ b) (hx : Ext (w.setCell p v) w') : Rows w' oa b o n c f :=
  ⟨h.at_, fun i j hi hj => upd_cell hx (by rintro rfl; exact hp rfl) (h.cell i j hi hj)⟩
theorem lt_of_rows {w : World} {oa : Option Addr} {b o n c : Nat} {f : Nat → Nat → Value} (h : Rows w oa b o n c f) (hn : 0 < n) (hc : 0 < c) : b < w.heap.size := by
  have := block_lt (h.cell 0 0 hn hc)
  exact this
/-- a slice of nothing may as well lie at any block -/
theorem Rows.away {w : World} {oa : Option Addr} {b o n c : Nat} {f : Nat → Nat → Value} (h : Rows w oa b o n c f) (hc : 0 < c) (g : Nat) (hg : w.heap.size ≤ g) : ∃ b', b' ≠ g ∧ Rows w oa b' o n c f := by
  by_cases hn : 0 < n
  · exact ⟨b, by have := lt_of_rows h hn hc; omega, h⟩
  · refine ⟨g + 1, by omega, ⟨fun h0 => absurd h0 hn, fun i j hi hj => by omega⟩⟩
theorem one_le_cast (n : Nat) : decide (1 ≤ n) = decide ((1 : Int) ≤ (n : Int)) := by rw [Bool.eq_iff_iff]; simp; omega
set_option maxHeartbeats 4000000 in
theorem look_c (p : LProg) (v : Value) (most R : Int) (hm : R64 most) (hRr : R64 R) (w : World) (hp : ProgAt w v p) :
    Calls Try.prog 86 #[v, .int .i64 most, .int .i64 R] w fun e w' => e = .returned (.bool (progOk p most R)) ∧ Ext w w' := by
  have hp' := hp
  obtain ⟨v1, v2, rfl, ⟨hb, oa, cap, b, o, rfl, hc1, hc2, hrow⟩, ⟨hf, ob, capb, b2, o2, rfl, hd1, hd2, hrow2⟩⟩ := hp
  have HP := Lib.hid hp'
  have hm0 := hm.1
  have hm1 := hm.2
  have Hrow := Lib.hid hrow
  have Hrow2 := Lib.hid hrow2
  have hlen := len_bd hc1 hc2
  have hlen2 := len_bd hd1 hd2
  have hix := index_code (cap := capb) hrow2.at_
  clear hrow hrow2 hc1 hc2 hd1 hd2 hp'
  go_enter Try.func86, Try.ntmps86
  go_upto_region 1 with fail
  obtain ⟨w0, g, hg, hW, hx, c0, c1⟩ := new2 w 25 (.slice oa p.regs.length cap) (.slice ob p.code.length capb)
  rw [hW, hg]
  have X0 := Lib.hid hx
  clear hW hx
  have hgs : w.heap.size ≤ g := by omega
  clear hg
  obtain ⟨ok0, Hok0⟩ : ∃ b : Bool, Hid (b = (regsOk p.regs && decide ((1 : Int) ≤ (p.code.length : Int)) && decide ((p.code.length : Int) ≤ most))) := ⟨_, Lib.hid rfl⟩
  go_cut [7] (fun s7 wx => ∃ k : Nat, s7 = .pointer (some ⟨k, 0, none⟩) ∧ w0.heap.size ≤ k ∧ Ext w0 wx ∧ Blk wx k 157 #[.slice oa p.regs.length cap, .slice ob p.code.length capb, .int .i64 R, .bool ok0])
  case first =>
    have k0 : ∀ W, Ext w0 W → W.cell? ⟨g, 0, none⟩ = some (.slice oa p.regs.length cap) := fun _ h => h.kept c0.1
    have k1 : ∀ W, Ext w0 W → W.cell? ⟨g, 1, none⟩ = some (.slice ob p.code.length capb) := fun _ h => h.kept c1.1
    have HC : ∀ W, Ext w0 W → Hid (Calls Try.prog 121 #[.agg #[.slice oa p.regs.length cap, .slice ob p.code.length capb]] W fun e w' => e = .returned (.bool (regsOk p.regs)) ∧ Ext W w') := fun W h => Lib.hid (regions_c p _ W (HP.out.ext (X0.out.trans h)))
    refine region_fresh 19 18 (some 28) (by decide) rfl (by kernel_rfl) (by kernel_rfl) (fun k => .pointer (some ⟨k, 0, none⟩)) 157 #[.slice oa p.regs.length cap, .slice ob p.code.length capb, .int .i64 R, .bool ok0] ?_
    simp only [List.take_succ_cons, List.take_zero, List.drop_succ_cons, List.drop_zero]
    cases hr : regsOk p.regs
    · have hk0 : ok0 = false := by rw [Hok0.out, hr]; rfl
      rw [hr] at HC
      clear hr Hok0
      subst hk0
      repeat (first | (refine calm_fresh ?_ ?_ (fun wc hE => ?_) ?_; (decide); rfl; (focus (go_simp; done)); go_simp) | (refine calm_value ?_ ?_ ?_; (decide); (first | rfl | (focus (go_simp; done))); apply Exists.intro; refine ⟨fun wc hE => ?_, ?_⟩; (go_simp; exact rfl); go_simp) | (refine calm_call ?_ ?_ ?_; (decide); (first | rfl | (focus (go_simp; done))); apply Exists.intro; refine ⟨fun wc hE => ?_, ?_⟩; (go_simp; (first | (with_reducible exact calm_enter ((HC _ ‹_›).out)))); go_simp) | (refine calm_skip ?_ ?_ ?_; (decide); (focus (go_simp; done)); go_simp))
      refine calm_nil ?_
      intro k wx hk hB hE
      go_wp2
      go_meet
      exact ⟨k, rfl, hk, hE, hB⟩
    · rw [hr] at HC
      by_cases h1 : (1 : Int) ≤ (p.code.length : Int)
      · by_cases h2 : (p.code.length : Int) ≤ most
        · have hk0 : ok0 = true := by rw [Hok0.out, hr]; simp [h1, h2]
          clear hr Hok0
          subst hk0
          repeat (first | (refine calm_fresh ?_ ?_ (fun wc hE => ?_) ?_; (decide); rfl; (focus (go_simp; done)); go_simp) | (refine calm_value ?_ ?_ ?_; (decide); (first | rfl | (focus (go_simp; done))); apply Exists.intro; refine ⟨fun wc hE => ?_, ?_⟩; (go_simp; exact rfl); go_simp) | (refine calm_call ?_ ?_ ?_; (decide); (first | rfl | (focus (go_simp; done))); apply Exists.intro; refine ⟨fun wc hE => ?_, ?_⟩; (go_simp; (first | (with_reducible exact calm_enter ((HC _ ‹_›).out)))); go_simp) | (refine calm_skip ?_ ?_ ?_; (decide); (focus (go_simp; done)); go_simp))
          refine calm_nil ?_
          intro k wx hk hB hE
          go_wp2
          go_meet
          exact ⟨k, rfl, hk, hE, hB⟩
        · have hk0 : ok0 = false := by rw [Hok0.out, hr]; simp [h1, h2]
          have h2' : decide ((p.code.length : Int) ≤ most) = false := by simpa using h2
          clear hr Hok0 h2
          subst hk0
          repeat (first | (refine calm_fresh ?_ ?_ (fun wc hE => ?_) ?_; (decide); rfl; (focus (go_simp; done)); go_simp) | (refine calm_value ?_ ?_ ?_; (decide); (first | rfl | (focus (go_simp; done))); apply Exists.intro; refine ⟨fun wc hE => ?_, ?_⟩; (go_simp; exact rfl); go_simp) | (refine calm_call ?_ ?_ ?_; (decide); (first | rfl | (focus (go_simp; done))); apply Exists.intro; refine ⟨fun wc hE => ?_, ?_⟩; (go_simp; (first | (with_reducible exact calm_enter ((HC _ ‹_›).out)))); go_simp) | (refine calm_skip ?_ ?_ ?_; (decide); (focus (go_simp; done)); go_simp))
          refine calm_nil ?_
          intro k wx hk hB hE
          go_wp2
          go_meet
          exact ⟨k, rfl, hk, hE, hB⟩
      · have hk0 : ok0 = false := by rw [Hok0.out, hr]; simp [h1]
        have h1' : decide ((1 : Int) ≤ (p.code.length : Int)) = false := by simpa using h1
        clear hr Hok0 h1
        subst hk0
        repeat (first | (refine calm_fresh ?_ ?_ (fun wc hE => ?_) ?_; (decide); rfl; (focus (go_simp; done)); go_simp) | (refine calm_value ?_ ?_ ?_; (decide); (first | rfl | (focus (go_simp; done))); apply Exists.intro; refine ⟨fun wc hE => ?_, ?_⟩; (go_simp; exact rfl); go_simp) | (refine calm_call ?_ ?_ ?_; (decide); (first | rfl | (focus (go_simp; done))); apply Exists.intro; refine ⟨fun wc hE => ?_, ?_⟩; (go_simp; (first | (with_reducible exact calm_enter ((HC _ ‹_›).out)))); go_simp) | (refine calm_skip ?_ ?_ ?_; (decide); (focus (go_simp; done)); go_simp))
        refine calm_nil ?_
        intro k wx hk hB hE
        go_wp2
        go_meet
        exact ⟨k, rfl, hk, hE, hB⟩
  case rest =>
  obtain ⟨k, rfl, hk, hE, hB⟩ := hcut
  have g0 : wc.cell? ⟨k, 0, none⟩ = some (.slice oa p.regs.length cap) := by rw [hB.cell]; rfl
  have g1 : wc.cell? ⟨k, 1, none⟩ = some (.slice ob p.code.length capb) := by rw [hB.cell]; rfl
  have g2 : wc.cell? ⟨k, 2, none⟩ = some (.int .i64 R) := by rw [hB.cell]; rfl
  have g3 : wc.cell? ⟨k, 3, none⟩ = some (.bool ok0) ∧ wc.frozen? ⟨k, 3, none⟩ = false := ⟨by rw [hB.cell]; rfl, hB.frozen 3⟩
  have c0 := kept2 hE c0
  have c1 := kept2 hE c1
  have XC := Lib.hid (X0.out.trans hE)
  have hks : w.heap.size ≤ k := Nat.le_trans X0.out.size hk
  obtain ⟨b', hb', hR'⟩ := Hrow.out.away (by omega) k hks
  have HR := Lib.hid (hR'.ext XC.out)
  clear hB hE hk hR'
  go_wp2_with fail
  go_loopw [32] (fun i wr => ∃ j : Nat, j ≤ p.code.length ∧ i = .int .i64 j ∧ Ext (wc.setCell ⟨k, 3, none⟩ (.bool (ok0 && (p.code.take j).all (insOk p R)))) wr) (fun i _ => p.code.length - (intOf i).toNat)
  case atStart => exact ⟨0, by omega, rfl, by simpa using upd_refl g3.1 (Ext.refl _)⟩
  case round =>
    obtain ⟨j, hj, rfl, hr⟩ := hrel
    have r0 := upd_cell hr (by simp) g0
    have r1 := upd_cell hr (by simp) g1
    have r2 := upd_cell hr (by simp) g2
    have r3 := upd_same hr g3
    have Hr := Lib.hid hr
    have EW := Lib.hid (upd_new hr XC.out hks)
    clear hr
    by_cases hlt : j < p.code.length
    · obtain ⟨e0, e1, e2, e3, e4⟩ := (Hrow2.out.ext EW.out).ins j hlt
      have hfi := hf _ (getD_mem hlt)
      have Hs := Lib.hid (take_and (insOk p R) p.code j default hlt ok0)
      have Hfalse := Lib.hid (all_false (insOk p R) p.code j default hlt)
      generalize p.code.getD j default = i at *
      obtain ⟨okj, Hokj⟩ : ∃ b : Bool, Hid (b = (ok0 && (p.code.take j).all (insOk p R))) := ⟨_, Lib.hid rfl⟩
      rw [← Hokj.out] at r3 Hr Hs
      have hkl : k < wr.heap.size := block_lt r3.1
      cases okj
      · go_wp2
        go_ret
        refine ⟨ret_b ?_, EW.out.alloc _⟩
        have hz := Hokj.out
        have ht : (ok0 && p.code.all (insOk p R)) = false := by
          rw [← List.take_append_drop j p.code, List.all_append, ← Bool.and_assoc, ← hz]; rfl
        unfold progOk
        rw [← ht, Hok0.out]
        rw [one_le_cast]
      · have hreg : true = true → ∀ r ∈ p.regs, 0 ≤ r.log ∧ r.log ≤ 6 := fun _ => by
          have hz := Hokj.out.symm
          rw [Hok0.out] at hz
          simp only [Bool.and_eq_true] at hz
          have h1 := hz.1.1.1
          simp only [regsOk, Bool.and_eq_true, List.all_eq_true] at h1
          intro r hr
          have := h1.1 r hr
          simpa [regOk] using this
        have hA := (Ext.refl wr).alloc (.cells #[.int .i64 i.op, .int .i64 i.a, .int .i64 i.b, .int .i64 i.c, .int .i64 i.n] 70)
        have C := ins_c k oa cap ob capb R true p i hfi (wr.alloc (.cells #[.int .i64 i.op, .int .i64 i.a, .int .i64 i.b, .int .i64 i.c, .int .i64 i.n] 70)) b' o (Ne.symm hb') ((HR.out.upd (Ne.symm hb') Hr.out).ext hA) hreg (hA.kept r0) (hA.kept r1) (hA.kept r2) (kept2 hA r3)
        have HC := Lib.hid C
        clear C hA hreg
        go_wp2_with fail
        (with_reducible refine HC.out.mono ?_)
        rintro e' w2 ⟨rfl, hx⟩
        have hfin := Lib.hid (upd_trans Hr.out (upd_after ((Ext.refl wr).alloc _) hx))
        rw [← Hs.out] at hfin
        clear hx HC
        go_wp2
        go_roundw
        case rel => exact ⟨j + 1, by omega, by go_num, hfin.out⟩
        case measure => first | (simp [intOf]; done) | (simp [intOf]; omega)
    · have hje : j = p.code.length := by omega
      subst hje
      rw [List.take_length] at r3
      go_wp2
      go_ret
      refine ⟨ret_b ?_, EW.out⟩
      unfold progOk
      rw [Hok0.out]
      rw [one_le_cast]

theorem may_c (p : LProg) (v : Value) (w : World) (hp : ProgAt w v p) :
    Calls Try.prog 50 #[v] w fun e w' => e = .returned (.bool (mayOk p)) ∧ Ext w w' := by
  have HP := Lib.hid hp
  obtain ⟨v1, v2, rfl, -⟩ := hp
  go_enter Try.func50, Try.ntmps50
  go_wp2_with fail
  have hA := (Ext.refl w).alloc (.cells #[v1, v2] 25)
  have C := look_c p _ 200 8 (by unfold R64; omega) (by unfold R64; omega) _ (HP.out.ext hA)
  (with_reducible refine C.mono ?_)
  rintro e w1 ⟨rfl, hx⟩
  have HX := Lib.hid (hA.trans hx)
  clear hx hA C
  go_wp2
  go_ret
  exact ⟨rfl, HX.out⟩
end Go.Proofs.Yteiknefajlocoaa
/- Walk of the reference's Same (chapter 8), of what is the same (of Word3, for seats without evenkeelref8.Words). -/
namespace Go.Proofs.Yteiknefajlocoaa
open Go.ChangeShapes Go.WideShapes Go.ChangeAt Go.RowKit
set_option linter.unusedVariables false
set_option linter.unusedSimpArgs false

theorem reg_ne (x : Int) (y : Bool) (w : World) : (binOp .neq 68 (.agg #[.int .i64 x, .bool y]) (.agg #[.int .i64 x, .bool y])).run Try.prog w = .ok (.bool false) w := by
  go_simp
theorem ins_ne (a b c d e : Int) (w : World) : (binOp .neq 70 (.agg #[.int .i64 a, .int .i64 b, .int .i64 c, .int .i64 d, .int .i64 e]) (.agg #[.int .i64 a, .int .i64 b, .int .i64 c, .int .i64 d, .int .i64 e])).run Try.prog w = .ok (.bool false) w := by
  go_simp
set_option maxHeartbeats 4000000 in
theorem rSame_c (p : LProg) (v u : Value) (w : World) (hv : ProgAt w v p) (hu : ProgAt w u p) :
    Calls Try.prog 36 #[v, u] w fun e w' => e = .returned (.bool true) ∧ Ext w w' := by
  obtain ⟨v1, v2, rfl, ⟨-, oa, capa, ba, ua, rfl, hc1, hc2, hr1⟩, ⟨-, ob, capb, bb, ub, rfl, hd1, hd2, hr2⟩⟩ := hv
  obtain ⟨u1, u2, rfl, ⟨-, oc, capc, bc, uc, rfl, hc3, hc4, hr3⟩, ⟨-, od, capd, bd, ud, rfl, hd3, hd4, hr4⟩⟩ := hu
  have hlen := len_bd hc1 hc2
  have hlen2 := len_bd hd1 hd2
  have hx1 := index_regs (cap := capa) hr1.at_
  have hx2 := index_code (cap := capb) hr2.at_
  have hx3 := index_regs (cap := capc) hr3.at_
  have hx4 := index_code (cap := capd) hr4.at_
  have H1 := Lib.hid hr1
  have H2 := Lib.hid hr2
  have H3 := Lib.hid hr3
  have H4 := Lib.hid hr4
  have hq1 : ((p.regs.length : Int) != (p.regs.length : Int)) = false := by simp
  have hq2 : ((p.code.length : Int) != (p.code.length : Int)) = false := by simp
  have rne := reg_ne
  have ine := ins_ne
  clear hr1 hr2 hr3 hr4 hc1 hc2 hc3 hc4 hd1 hd2 hd3 hd4
  go_enter Try.func36, Try.ntmps36
  go_upto_region 1 with fail
  obtain ⟨W, g, hg, hW, hx, bA, bB⟩ := blocks2 w #[.slice oa p.regs.length capa, .slice ob p.code.length capb] #[.slice oc p.regs.length capc, .slice od p.code.length capd] 25 25
  rw [hW, hg]
  have X := Lib.hid hx
  have a0 : W.cell? ⟨g, 0, none⟩ = some (.slice oa p.regs.length capa) := by rw [bA.cell]; rfl
  have a1 : W.cell? ⟨g, 1, none⟩ = some (.slice ob p.code.length capb) := by rw [bA.cell]; rfl
  have b0 : W.cell? ⟨g + 1, 0, none⟩ = some (.slice oc p.regs.length capc) := by rw [bB.cell]; rfl
  have b1 : W.cell? ⟨g + 1, 1, none⟩ = some (.slice od p.code.length capd) := by rw [bB.cell]; rfl
  clear hW hg hx bA bB
  go_wp2_with fail
  go_loopw [5] (fun i wr => ∃ j : Nat, j ≤ p.regs.length ∧ i = .int .i64 j ∧ Ext W wr) (fun i _ => p.regs.length - (intOf i).toNat)
  case atStart => exact ⟨0, by omega, rfl, Ext.refl _⟩
  case round =>
    obtain ⟨j, hj, rfl, hE⟩ := hrel
    have a0 := hE.kept a0
    have a1 := hE.kept a1
    have b0 := hE.kept b0
    have b1 := hE.kept b1
    have HE := Lib.hid hE
    have X := Lib.hid (X.out.trans hE)
    clear hE
    by_cases hlt : j < p.regs.length
    · obtain ⟨e0, e1⟩ := (H1.out.ext X.out).reg j hlt
      obtain ⟨f0, f1⟩ := (H3.out.ext X.out).reg j hlt
      generalize p.regs.getD j default = r at *
      have k0 : ∀ W, Ext wr W → W.cell? ⟨ba, ua + j * 2, none⟩ = some (.int .i64 r.log) := fun _ h => h.kept e0
      have k1 : ∀ W, Ext wr W → W.cell? ⟨ba, ua + j * 2 + 1, none⟩ = some (.bool r.secret) := fun _ h => h.kept e1
      have k2 : ∀ W, Ext wr W → W.cell? ⟨bc, uc + j * 2, none⟩ = some (.int .i64 r.log) := fun _ h => h.kept f0
      have k3 : ∀ W, Ext wr W → W.cell? ⟨bc, uc + j * 2 + 1, none⟩ = some (.bool r.secret) := fun _ h => h.kept f1
      have k4 : ∀ W, Ext wr W → W.cell? ⟨g, 0, none⟩ = some (.slice oa p.regs.length capa) := fun _ h => h.kept a0
      have k5 : ∀ W, Ext wr W → W.cell? ⟨g + 1, 0, none⟩ = some (.slice oc p.regs.length capc) := fun _ h => h.kept b0
      clear e0 e1 f0 f1
      go_upto_region 6 with fail
      refine region_calm 11 (by kernel_rfl) (by kernel_rfl) ?_
      simp only [List.take_succ_cons, List.take_zero, List.drop_succ_cons, List.drop_zero]
      repeat (first | (refine calm_fresh ?_ ?_ (fun wc hE => ?_) ?_; (decide); rfl; (focus (go_simp; done)); go_simp) | (refine calm_value ?_ ?_ ?_; (decide); (first | rfl | (focus (go_simp; done))); apply Exists.intro; refine ⟨fun wc hE => ?_, ?_⟩; (go_simp; exact rfl); go_simp) | (refine calm_call ?_ ?_ ?_; (decide); (first | rfl | (focus (go_simp; done))); apply Exists.intro; refine ⟨fun wc hE => ?_, ?_⟩; (go_simp; (first | fail)); go_simp) | (refine calm_skip ?_ ?_ ?_; (decide); (focus (go_simp; done)); go_simp))
      refine calm_nil ?_
      intro wx hx
      have HE := Lib.hid (HE.out.trans hx)
      clear hx k0 k1 k2 k3 k4 k5
      go_wp2
      go_roundw
      case rel => exact ⟨j + 1, by omega, by go_num, HE.out⟩
      case measure => first | (simp [intOf]; done) | (simp [intOf]; omega)
    · go_wp2_with fail
      obtain ⟨w1, hw1⟩ : ∃ w1, w1 = wr := ⟨_, rfl⟩
      subst hw1
      go_loopw [6] (fun i wr => ∃ j : Nat, j ≤ p.code.length ∧ i = .int .i64 j ∧ Ext w1 wr) (fun i _ => p.code.length - (intOf i).toNat)
      case atStart => exact ⟨0, by omega, rfl, Ext.refl _⟩
      case round =>
        obtain ⟨k, hk, rfl, hE⟩ := hrel
        have a1 := hE.kept a1
        have b1 := hE.kept b1
        have HE := Lib.hid hE
        have X := Lib.hid (X.out.trans hE)
        clear hE
        by_cases hltk : k < p.code.length
        · obtain ⟨e0, e1, e2, e3, e4⟩ := (H2.out.ext X.out).ins k hltk
          obtain ⟨f0, f1, f2, f3, f4⟩ := (H4.out.ext X.out).ins k hltk
          generalize p.code.getD k default = i at *
          have k0 : ∀ W, Ext wr W → W.cell? ⟨bb, ub + k * 5, none⟩ = some (.int .i64 i.op) := fun _ h => h.kept e0
          have k1 : ∀ W, Ext wr W → W.cell? ⟨bb, ub + k * 5 + 1, none⟩ = some (.int .i64 i.a) := fun _ h => h.kept e1
          have k2 : ∀ W, Ext wr W → W.cell? ⟨bb, ub + k * 5 + 2, none⟩ = some (.int .i64 i.b) := fun _ h => h.kept e2
          have k3 : ∀ W, Ext wr W → W.cell? ⟨bb, ub + k * 5 + 3, none⟩ = some (.int .i64 i.c) := fun _ h => h.kept e3
          have k4 : ∀ W, Ext wr W → W.cell? ⟨bb, ub + k * 5 + 4, none⟩ = some (.int .i64 i.n) := fun _ h => h.kept e4
          have l0 : ∀ W, Ext wr W → W.cell? ⟨bd, ud + k * 5, none⟩ = some (.int .i64 i.op) := fun _ h => h.kept f0
          have l1 : ∀ W, Ext wr W → W.cell? ⟨bd, ud + k * 5 + 1, none⟩ = some (.int .i64 i.a) := fun _ h => h.kept f1
          have l2 : ∀ W, Ext wr W → W.cell? ⟨bd, ud + k * 5 + 2, none⟩ = some (.int .i64 i.b) := fun _ h => h.kept f2
          have l3 : ∀ W, Ext wr W → W.cell? ⟨bd, ud + k * 5 + 3, none⟩ = some (.int .i64 i.c) := fun _ h => h.kept f3
          have l4 : ∀ W, Ext wr W → W.cell? ⟨bd, ud + k * 5 + 4, none⟩ = some (.int .i64 i.n) := fun _ h => h.kept f4
          have k5 : ∀ W, Ext wr W → W.cell? ⟨g, 1, none⟩ = some (.slice ob p.code.length capb) := fun _ h => h.kept a1
          have k6 : ∀ W, Ext wr W → W.cell? ⟨g + 1, 1, none⟩ = some (.slice od p.code.length capd) := fun _ h => h.kept b1
          clear e0 e1 e2 e3 e4 f0 f1 f2 f3 f4
          go_upto_region 11 with fail
          refine region_calm 11 (by kernel_rfl) (by kernel_rfl) ?_
          simp only [List.take_succ_cons, List.take_zero, List.drop_succ_cons, List.drop_zero]
          repeat (first | (refine calm_fresh ?_ ?_ (fun wc hE => ?_) ?_; (decide); rfl; (focus (go_simp; done)); go_simp) | (refine calm_value ?_ ?_ ?_; (decide); (first | rfl | (focus (go_simp; done))); apply Exists.intro; refine ⟨fun wc hE => ?_, ?_⟩; (go_simp; exact rfl); go_simp) | (refine calm_call ?_ ?_ ?_; (decide); (first | rfl | (focus (go_simp; done))); apply Exists.intro; refine ⟨fun wc hE => ?_, ?_⟩; (go_simp; (first | fail)); go_simp) | (refine calm_skip ?_ ?_ ?_; (decide); (focus (go_simp; done)); go_simp))
          refine calm_nil ?_
          intro wx hx
          have HE := Lib.hid (HE.out.trans hx)
          clear hx k0 k1 k2 k3 k4 k5 k6 l0 l1 l2 l3 l4
          go_wp2
          go_roundw
          case rel => exact ⟨k + 1, by omega, by go_num, HE.out⟩
          case measure => first | (simp [intOf]; done) | (simp [intOf]; omega)
        · go_wp2
          go_ret
          exact ⟨rfl, X.out⟩
end Go.Proofs.Yteiknefajlocoaa
