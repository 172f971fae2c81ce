/- Walk of the program's step. -/
import Derived.Test.YteiknefajlocoaaSeq3
namespace Go.Proofs.Yteiknefajlocoaa
open Go.ChangeShapes Go.WideShapes Go.ChangeAt Go.RowKit
set_option linter.unusedVariables false
set_option linter.unusedSimpArgs false

theorem step_word {p : LProg} {i : LIns} {M : Mach} (hw : i.op = 3 ∨ i.op = 4 ∨ i.op = 5 ∨ i.op = 6) (hin : insideB p i (idxOf M.regs i) = true) :
    stepM p i M = { wordM p i { M with steps := M.steps + 1, seen := M.seen ++ [⟨1, M.at_, 0⟩] } with at_ := M.at_ + 1 } := by
  unfold wordM
  by_cases h : i.op = 4 ∨ i.op = 6
  · have hp : isPut i = true := by unfold isPut; rcases h with h | h <;> simp [h]
    have hk : putN i = 1 := by unfold putN; rw [hp]; rfl
    rw [step_put h hin]
    simp only [hp, if_true, hk]
  · have h2 : i.op = 3 ∨ i.op = 5 := by omega
    have hp : isPut i = false := by unfold isPut; rcases h2 with h | h <;> simp [h]
    have hk : putN i = 0 := by unfold putN; rw [hp]; rfl
    rw [step_take h2 hin]
    simp only [hp, Bool.false_eq_true, if_false, hk]
theorem MOk.same {p : LProg} {M M' : Mach} (h : MOk p M) (h1 : M'.regs = M.regs) (h2 : M'.words = M.words) : MOk p M' := ⟨by rw [h1]; exact h.len, by rw [h1]; exact h.r64, by rw [h2]; exact h.wlen, by rw [h2]; exact h.w64⟩
def StepPost (p : LProg) (i : LIns) (wB : World) (g : Nat) (vR vC vM vB vW : Value) (M : Mach) (e : Ending) (w' : World) : Prop :=
  e = .returned (.tuple #[]) ∧ ∃ vS', MSt w' wB.heap.size g vR vC vM vB vS' vW (basesOf p) (stepM p i M) ∧ Ext wB w'
set_option maxRecDepth 100000 in
set_option maxHeartbeats 8000000 in
theorem step_c (p : LProg) (i : LIns) {wB : World} {g : Nat} {vR vC vM vB vS vW : Value} {M : Mach} (hi : p.code[M.at_]? = some i) (hh : hardOk p = true) (hfi : i.fits) (hok : MOk p M) (hsn : M.seen.length ≤ 900000) (hst : M.steps ≤ 40000) (w : World) (hp : ProgAt wB (.agg #[vR, vC]) p) (hbx : Ext wB w) (h : MSt w wB.heap.size g vR vC vM vB vS vW (basesOf p) M) :
    Calls Try.prog 71 #[.pointer (some ⟨g, 0, none⟩)] w (StepPost p i wB g vR vC vM vB vW M) := by
  obtain ⟨hr, hl1, hl2, hall⟩ := hard_parts hh
  have hat : M.at_ < p.code.length := (List.getElem?_eq_some_iff.1 hi).1
  have hp0 := hp
  have hpi : p.code.getD M.at_ default = i := by simp [List.getD_eq_getElem?_getD, hi]
  have hiok : insOk p 10 i = true := by rw [← hpi]; exact hall _ (getD_mem hat)
  obtain ⟨v1, v2, hv, hR0, -⟩ := hp0
  simp only [Value.agg.injEq, Array.mk.injEq, List.cons.injEq, and_true] at hv
  obtain ⟨rfl, -⟩ := hv
  have HR : Hid (∀ W, Ext wB W → RegsAt W vR p.regs) := Lib.hid fun W hW => hR0.ext hW
  clear hR0
  obtain ⟨v1, v2, hv, hR, ⟨-, oc, capc, bc, oo, rfl, hc1, hc2, hrow⟩⟩ := hp.ext hbx
  simp only [Value.agg.injEq, Array.mk.injEq, List.cons.injEq, and_true] at hv
  obtain ⟨rfl, rfl⟩ := hv
  have hix := index_code (cap := capc) hrow.at_
  obtain ⟨e0, e1, e2, e3, e4⟩ := hrow.ins M.at_ hat
  rw [hpi] at e0 e1 e2 e3 e4
  obtain ⟨-, g1, -, -, -, -, -, -, g18, -⟩ := h.cells
  have hgl := h.box.lt
  have H := Lib.hid h
  have HB0 := Lib.hid hbx
  have Hr := Lib.hid hr
  have Hmok := Lib.hid hok
  have Hiok := Lib.hid hiok
  have Hfi := Lib.hid hfi
  have Hsn := Lib.hid hsn
  have HSP : Hid (∀ vS' w', MSt w' wB.heap.size g vR (.slice oc p.code.length capc) vM vB vS' vW (basesOf p) (stepM p i M) → Ext wB w' → StepPost p i wB g vR (.slice oc p.code.length capc) vM vB vW M (.returned (.tuple #[])) w') := Lib.hid fun vS' w' h1 h2 => ⟨rfl, vS', h1, h2⟩
  generalize StepPost p i wB g vR (.slice oc p.code.length capc) vM vB vW M = SP at *
  clear hrow hR hr hall hok hiok hfi hpi hi hh h hbx
  obtain ⟨op, a, b, c, n⟩ := i
  simp only at e0 e1 e2 e3 e4
  go_enter Try.func71, Try.ntmps71
  go_upto_region 0 with fail
  have k1 : ∀ W, Ext w W → W.cell? ⟨g, 1, none⟩ = some (.slice oc p.code.length capc) := fun _ h => h.kept g1.1
  have k18 : ∀ W, Ext w W → W.cell? ⟨g, 18, none⟩ = some (.int .i64 (M.at_ : Int)) := fun _ h => h.kept g18.1
  have m0 : ∀ W, Ext w W → W.cell? ⟨bc, oo + M.at_ * 5, none⟩ = some (.int .i64 op) := fun _ h => h.kept e0
  have m1 : ∀ W, Ext w W → W.cell? ⟨bc, oo + M.at_ * 5 + 1, none⟩ = some (.int .i64 a) := fun _ h => h.kept e1
  have m2 : ∀ W, Ext w W → W.cell? ⟨bc, oo + M.at_ * 5 + 2, none⟩ = some (.int .i64 b) := fun _ h => h.kept e2
  have m3 : ∀ W, Ext w W → W.cell? ⟨bc, oo + M.at_ * 5 + 3, none⟩ = some (.int .i64 c) := fun _ h => h.kept e3
  have m4 : ∀ W, Ext w W → W.cell? ⟨bc, oo + M.at_ * 5 + 4, none⟩ = some (.int .i64 n) := fun _ h => h.kept e4
  refine region_fresh 13 12 (some 2) (by decide) rfl (by kernel_rfl) (by kernel_rfl) (fun k => .pointer (some ⟨k, 0, none⟩)) 70 #[.int .i64 0, .int .i64 0, .int .i64 0, .int .i64 0, .int .i64 0] ?_
  simp only [List.take_succ_cons, List.take_zero, List.drop_succ_cons, List.drop_zero]
  repeat (first | (refine calm_fresh ?_ ?_ (fun wc hE => ?_) ?_; (decide); rfl; (focus (go_simp; done)); go_simp) | (refine calm_value ?_ ?_ ?_; (decide); (first | rfl | (focus (go_simp; done))); apply Exists.intro; refine ⟨fun wc hE => ?_, ?_⟩; (go_simp; exact rfl); go_simp) | (refine calm_call ?_ ?_ ?_; (decide); (first | rfl | (focus (go_simp; done))); apply Exists.intro; refine ⟨fun wc hE => ?_, ?_⟩; (go_simp; (first | fail)); go_simp) | (refine calm_skip ?_ ?_ ?_; (decide); (focus (go_simp; done)); go_simp))
  refine calm_nil ?_
  intro k wx hk hB hx
  clear k1 k18 m0 m1 m2 m3 m4 e0 e1 e2 e3 e4 g1 g18
  refine store_all hB #[.int .i64 op, .int .i64 a, .int .i64 b, .int .i64 c, .int .i64 n] rfl rfl rfl (by kernel_rfl) (by simp [Value.oneCell']) ?_
  have bI := hB.stored #[.int .i64 op, .int .i64 a, .int .i64 b, .int .i64 c, .int .i64 n] rfl
  have hx2 := hx.setCells (#[.int .i64 op, .int .i64 a, .int .i64 b, .int .i64 c, .int .i64 n] : Array Value).toList hk 0
  generalize wx.setCells k 0 (#[.int .i64 op, .int .i64 a, .int .i64 b, .int .i64 c, .int .i64 n] : Array Value).toList = w1 at *
  have X := Lib.hid hx2
  have P := Lib.hid (H.out.ext hx2)
  have hks : some k ≠ vS.ownBlock := by
    intro e
    have := (H.out.sn.lt k e.symm).2
    omega
  have hkg : k ≠ g := by omega
  have Hks := Lib.hid hks
  obtain ⟨-, -, -, -, g4, -, -, -, g18, -⟩ := P.out.cells
  have hgl := P.out.box.lt
  have hkl := bI.lt
  clear hx hx2 hB hk hks
  go_wp2_with fail
  have P2 := P.out.steps_ (M.steps + 1)
  rw [show ((M.steps + 1 : Nat) : Int) = (M.steps : Int) + 1 by omega] at P2
  have bI := bI.far (p := ⟨g, 4, none⟩) hkg (.int .i64 ((M.steps : Int) + 1))
  have HB2 : Hid (Ext wB (w1.setCell ⟨g, 4, none⟩ (.int .i64 ((M.steps : Int) + 1)))) := Lib.hid ((HB0.out.trans X.out).setCell H.out.hg _)
  generalize w1.setCell ⟨g, 4, none⟩ (.int .i64 ((M.steps : Int) + 1)) = w2 at *
  (with_reducible refine (see_c w2 P2 1 M.at_ 0 (by simpa using Nat.le_trans Hsn.out (by omega))).mono ?_)
  rintro e w3 ⟨rfl, vS2, P3, T3, N3⟩
  have bI := bI.turn T3 (by
    rintro (h1 | h1)
    · exact hkg h1
    · exact Hks.out h1.symm)
  have HB : Hid (Ext wB w3) := Lib.hid (Below.trans HB2.out (P2.below T3))
  have i0 : w3.cell? ⟨k, 0, none⟩ = some (.int .i64 op) := by rw [bI.cell]; rfl
  have i1 : w3.cell? ⟨k, 1, none⟩ = some (.int .i64 a) := by rw [bI.cell]; rfl
  have i2 : w3.cell? ⟨k, 2, none⟩ = some (.int .i64 b) := by rw [bI.cell]; rfl
  have i3 : w3.cell? ⟨k, 3, none⟩ = some (.int .i64 c) := by rw [bI.cell]; rfl
  have i4 : w3.cell? ⟨k, 4, none⟩ = some (.int .i64 n) := by rw [bI.cell]; rfl
  obtain ⟨-, -, g2, g3, -, -, -, -, g18, -⟩ := P3.cells
  have hgl := P3.box.lt
  have hkl := bI.lt
  simp only at g2 g3 g18
  have Hreg : Hid (∀ a, okIn 10 a = true → w3.cell? ⟨g, 7 + a.toNat, none⟩ = some (.int .i64 (rg M.regs a)) ∧ w3.frozen? ⟨g, 7 + a.toNat, none⟩ = false) := Lib.hid fun a ha => P3.reg ha
  have PP := Lib.hid P3
  clear P3 T3 N3 P2 HB2 P bI g4
  by_cases h7 : op = 7
  · subst h7
    have hn := (ins_regs Hiok.out).2.2.2.2.2.2.2.2.2.1 (.inl rfl)
    simp only at hn
    have Hn : Hid (n = ((n.toNat : Nat) : Int)) := Lib.hid (by omega)
    have Hs : Hid (stepM p ⟨7, a, b, c, n⟩ M = { M with at_ := n.toNat, steps := M.steps + 1, seen := M.seen ++ [⟨1, M.at_, 0⟩] }) := Lib.hid rfl
    clear hn
    go_wp2
    try refine bodyPost_end (results_none rfl _ _ _) rfl ?_
    refine HSP.out vS2 _ ?_ (HB.out.setCell PP.out.hg _)
    have := PP.out.at__ n.toNat
    rw [← Hn.out] at this
    rw [Hs.out]
    exact this
  by_cases h8 : op = 8
  · subst h8
    have hn := (ins_regs Hiok.out).2.2.2.2.2.2.2.2.2.1 (.inr rfl)
    obtain ⟨ha, hb, -, -⟩ := (ins_regs Hiok.out).2.2.2.2.2.1 rfl
    simp only at hn ha hb
    have Hn : Hid (n = ((n.toNat : Nat) : Int)) := Lib.hid (by omega)
    obtain ⟨a0, a1⟩ := okIn_iff.1 ha
    obtain ⟨b0, b1⟩ := okIn_iff.1 hb
    obtain ⟨ra, -⟩ := Hreg.out a ha
    obtain ⟨rb, -⟩ := Hreg.out b hb
    have k1 : ∀ W, Ext w3 W → W.cell? ⟨k, 1, none⟩ = some (.int .i64 a) := fun _ h => h.kept i1
    have k2 : ∀ W, Ext w3 W → W.cell? ⟨k, 2, none⟩ = some (.int .i64 b) := fun _ h => h.kept i2
    have k3 : ∀ W, Ext w3 W → W.cell? ⟨k, 3, none⟩ = some (.int .i64 c) := fun _ h => h.kept i3
    have ma : ∀ W, Ext w3 W → W.cell? ⟨g, 7 + a.toNat, none⟩ = some (.int .i64 (rg M.regs a)) := fun _ h => h.kept ra
    have mb : ∀ W, Ext w3 W → W.cell? ⟨g, 7 + b.toNat, none⟩ = some (.int .i64 (rg M.regs b)) := fun _ h => h.kept rb
    have hixr := index_arr
    clear hn i1 i2 i3 ra rb g2 g3
    cases hh : nholds c (rg M.regs a) (rg M.regs b)
    · have Hs : Hid (stepM p ⟨8, a, b, c, n⟩ M = { M with at_ := M.at_ + 1, steps := M.steps + 1, seen := M.seen ++ [⟨1, M.at_, 0⟩] }) := Lib.hid (by
        unfold stepM
        simp only
        rw [if_neg (by omega), if_pos trivial, if_neg (by rw [hh]; simp)])
      have C8 : ∀ W, Calls Try.prog 106 #[.int .i64 c, .int .i64 (rg M.regs a), .int .i64 (rg M.regs b)] W fun e w' => e = .returned (.bool false) ∧ Ext W w' := fun W => by
        have := numHolds_c c (rg M.regs a) (rg M.regs b) W
        rw [hh] at this
        exact this
      have C8 := Lib.hid C8
      clear hh
      go_upto_region 8 with fail
      refine region_calm 19 (by kernel_rfl) (by kernel_rfl) ?_
      simp only [List.take_succ_cons, List.take_zero, List.drop_succ_cons, List.drop_zero]
      repeat (first | (refine calm_fresh ?_ ?_ (fun wc hE => ?_) ?_; (decide); rfl; (focus (go_simp; done)); go_simp) | (refine calm_value ?_ ?_ ?_; (decide); (first | rfl | (focus (go_simp; done))); apply Exists.intro; refine ⟨fun wc hE => ?_, ?_⟩; (go_simp; exact rfl); go_simp) | (refine calm_call ?_ ?_ ?_; (decide); (first | rfl | (focus (go_simp; done))); apply Exists.intro; refine ⟨fun wc hE => ?_, ?_⟩; (go_simp; (first | (with_reducible exact calm_enter (C8.out _)))); go_simp) | (refine calm_skip ?_ ?_ ?_; (decide); (focus (go_simp; done)); go_simp))
      refine calm_nil ?_
      intro wx hx
      have i4 := hx.kept i4
      have g18 := kept2 hx g18
      have HB := Lib.hid (HB.out.trans hx)
      have PP := Lib.hid (PP.out.ext hx)
      clear hx k1 k2 k3 ma mb
      go_wp2
      try refine bodyPost_end (results_none rfl _ _ _) rfl ?_
      refine HSP.out vS2 _ ?_ (HB.out.setCell PP.out.hg _)
      have := PP.out.at__ (M.at_ + 1)
      rw [show ((M.at_ + 1 : Nat) : Int) = (M.at_ : Int) + 1 by omega] at this
      rw [Hs.out]
      exact this
    · have Hs : Hid (stepM p ⟨8, a, b, c, n⟩ M = { M with at_ := n.toNat, steps := M.steps + 1, seen := M.seen ++ [⟨1, M.at_, 0⟩] }) := Lib.hid (by
        unfold stepM
        simp only
        rw [if_neg (by omega), if_pos trivial, if_pos hh])
      have C8 : ∀ W, Calls Try.prog 106 #[.int .i64 c, .int .i64 (rg M.regs a), .int .i64 (rg M.regs b)] W fun e w' => e = .returned (.bool true) ∧ Ext W w' := fun W => by
        have := numHolds_c c (rg M.regs a) (rg M.regs b) W
        rw [hh] at this
        exact this
      have C8 := Lib.hid C8
      clear hh
      go_upto_region 8 with fail
      refine region_calm 19 (by kernel_rfl) (by kernel_rfl) ?_
      simp only [List.take_succ_cons, List.take_zero, List.drop_succ_cons, List.drop_zero]
      repeat (first | (refine calm_fresh ?_ ?_ (fun wc hE => ?_) ?_; (decide); rfl; (focus (go_simp; done)); go_simp) | (refine calm_value ?_ ?_ ?_; (decide); (first | rfl | (focus (go_simp; done))); apply Exists.intro; refine ⟨fun wc hE => ?_, ?_⟩; (go_simp; exact rfl); go_simp) | (refine calm_call ?_ ?_ ?_; (decide); (first | rfl | (focus (go_simp; done))); apply Exists.intro; refine ⟨fun wc hE => ?_, ?_⟩; (go_simp; (first | (with_reducible exact calm_enter (C8.out _)))); go_simp) | (refine calm_skip ?_ ?_ ?_; (decide); (focus (go_simp; done)); go_simp))
      refine calm_nil ?_
      intro wx hx
      have i4 := hx.kept i4
      have g18 := kept2 hx g18
      have HB := Lib.hid (HB.out.trans hx)
      have PP := Lib.hid (PP.out.ext hx)
      clear hx k1 k2 k3 ma mb
      go_wp2
      try refine bodyPost_end (results_none rfl _ _ _) rfl ?_
      refine HSP.out vS2 _ ?_ (HB.out.setCell PP.out.hg _)
      have := PP.out.at__ (n.toNat)
      rw [← Hn.out] at this
      rw [Hs.out]
      exact this
  by_cases h9 : op = 9
  · subst h9
    have ha := (ins_regs Hiok.out).2.2.2.2.2.2.1 rfl
    simp only at ha
    obtain ⟨a0, a1⟩ := okIn_iff.1 ha
    obtain ⟨ra, -⟩ := Hreg.out a ha
    have hixr := index_arr
    have Hs : Hid (stepM p ⟨9, a, b, c, n⟩ M = { M with at_ := M.at_ + 1, steps := M.steps + 1, seen := M.seen ++ [⟨1, M.at_, 0⟩], fin := 1, value := rg M.regs a }) := Lib.hid rfl
    clear i2 i3 i4
    go_upto_region 11 with fail
    go_region
    go_wp2
    try refine bodyPost_end (results_none rfl _ _ _) rfl ?_
    refine HSP.out vS2 _ ?_ (Ext.drew (((HB.out.setCell PP.out.hg _).setCell PP.out.hg _).setCell PP.out.hg _))
    have := (((PP.out.fin_ 1).value_ (rg M.regs a)).at__ (M.at_ + 1)).ext (Ext.drew (Ext.refl _))
    rw [show ((M.at_ + 1 : Nat) : Int) = (M.at_ : Int) + 1 by omega] at this
    rw [Hs.out]
    exact this
  by_cases hw : op = 4 ∨ op = 6
  · have Hw : Hid (op = 3 ∨ op = 4 ∨ op = 5 ∨ op = 6) := Lib.hid (by omega)
    have hb7 : (op == (7 : Int)) = false := by simp; omega
    have hb8 : (op == (8 : Int)) = false := by simp; omega
    have hb9 : (op == (9 : Int)) = false := by simp; omega
    have CP := puts_c ⟨op, a, b, c, n⟩ w3
    rw [show isPut ⟨op, a, b, c, n⟩ = true by unfold isPut; simp only; rcases hw with h | h <;> simp [h]] at CP
    simp only [insV] at CP
    go_wp2_with fail
    (with_reducible refine CP.mono ?_)
    clear CP
    rintro e w4 ⟨rfl, hx⟩
    clear g2 g3 Hreg
    have HB := Lib.hid (HB.out.trans hx)
    have PP := Lib.hid (PP.out.ext hx)
    have i0 := hx.kept i0
    have i1 := hx.kept i1
    have i2 := hx.kept i2
    have i3 := hx.kept i3
    have i4 := hx.kept i4
    have g18 := kept2 hx g18
    clear hx
    go_wp2_with fail
    have CW := word_c p ⟨op, a, b, c, n⟩ Hw.out Hiok.out Hr.out (Hmok.out.same (M' := { M with steps := M.steps + 1, seen := M.seen ++ [⟨1, M.at_, 0⟩] }) rfl rfl) (by simp; omega) w4 (HR.out _ HB.out) PP.out
    unfold WordPost at CW
    simp only [insV] at CW
    (with_reducible refine CW.mono ?_)
    clear CW
    rintro e w6 hpost
    cases hin : insideB p ⟨op, a, b, c, n⟩ (idxOf M.regs ⟨op, a, b, c, n⟩)
    · have hpost : e = .returned (.bool false) ∧ Ext w4 w6 := by
        rcases hpost with ⟨h1, -⟩ | ⟨-, h2⟩
        · try simp only at h1
          rw [hin] at h1; cases h1
        · exact h2
      obtain ⟨rfl, hx⟩ := hpost
      have Hs := Lib.hid (step_fault (M := M) Hw.out hin)
      have HB := Lib.hid (HB.out.trans hx)
      have PP := Lib.hid (PP.out.ext hx)
      obtain ⟨-, -, g2, -, -, -, -, -, g18, -⟩ := PP.out.cells
      have hgl := PP.out.box.lt
      simp only at g2 g18
      clear hx hin
      go_wp2
      try refine bodyPost_end (results_none rfl _ _ _) rfl ?_
      refine HSP.out vS2 _ ?_ ((HB.out.setCell PP.out.hg _).setCell PP.out.hg _)
      have := (PP.out.fin_ 2).at__ (M.at_ + 1)
      rw [show ((M.at_ + 1 : Nat) : Int) = (M.at_ : Int) + 1 by omega] at this
      rw [Hs.out]
      exact this
    · have hpost : e = .returned (.bool true) ∧ ∃ vS', MSt w6 wB.heap.size g vR (.slice oc p.code.length capc) vM vB vS' vW (basesOf p) (wordM p ⟨op, a, b, c, n⟩ { M with steps := M.steps + 1, seen := M.seen ++ [⟨1, M.at_, 0⟩] }) ∧ Below wB.heap.size w4 w6 := by
        rcases hpost with ⟨-, h2⟩ | ⟨h1, -⟩
        · exact h2
        · try simp only at h1
          rw [hin] at h1; cases h1
      obtain ⟨rfl, vS3, P5, hbb⟩ := hpost
      have Hs := Lib.hid (step_word (M := M) Hw.out hin)
      have HB : Hid (Ext wB w6) := Lib.hid (Below.trans HB.out hbb)
      have PP := Lib.hid P5
      obtain ⟨-, -, g2, -, -, -, -, -, g18, -⟩ := P5.cells
      have hgl := P5.box.lt
      clear P5 hbb hin
      generalize wordM p ⟨op, a, b, c, n⟩ { M with steps := M.steps + 1, seen := M.seen ++ [⟨1, M.at_, 0⟩] } = MW at *
      go_wp2
      try refine bodyPost_end (results_none rfl _ _ _) rfl ?_
      refine HSP.out vS3 _ ?_ (HB.out.setCell PP.out.hg _)
      have := PP.out.at__ (M.at_ + 1)
      rw [show ((M.at_ + 1 : Nat) : Int) = (M.at_ : Int) + 1 by omega] at this
      rw [Hs.out]
      exact this
  by_cases hw : op = 3 ∨ op = 5
  · have Hw : Hid (op = 3 ∨ op = 4 ∨ op = 5 ∨ op = 6) := Lib.hid (by omega)
    have hb7 : (op == (7 : Int)) = false := by simp; omega
    have hb8 : (op == (8 : Int)) = false := by simp; omega
    have hb9 : (op == (9 : Int)) = false := by simp; omega
    have CP := puts_c ⟨op, a, b, c, n⟩ w3
    rw [show isPut ⟨op, a, b, c, n⟩ = false by unfold isPut; simp only; simp; omega] at CP
    simp only [insV] at CP
    go_wp2_with fail
    (with_reducible refine CP.mono ?_)
    clear CP
    rintro e w4 ⟨rfl, hx⟩
    clear g2 g3 Hreg
    have HB := Lib.hid (HB.out.trans hx)
    have PP := Lib.hid (PP.out.ext hx)
    have i0 := hx.kept i0
    have i1 := hx.kept i1
    have i2 := hx.kept i2
    have i3 := hx.kept i3
    have i4 := hx.kept i4
    have g18 := kept2 hx g18
    clear hx
    go_wp2_with fail
    have CT := takes_c ⟨op, a, b, c, n⟩ w4
    rw [show isTake ⟨op, a, b, c, n⟩ = true by unfold isTake; simp only; rcases hw with h | h <;> simp [h]] at CT
    simp only [insV] at CT
    (with_reducible refine CT.mono ?_)
    clear CT
    rintro e w5 ⟨rfl, hx⟩
    have HB := Lib.hid (HB.out.trans hx)
    have PP := Lib.hid (PP.out.ext hx)
    have i0 := hx.kept i0
    have i1 := hx.kept i1
    have i2 := hx.kept i2
    have i3 := hx.kept i3
    have i4 := hx.kept i4
    have g18 := kept2 hx g18
    clear hx
    go_wp2_with fail
    have CW := word_c p ⟨op, a, b, c, n⟩ Hw.out Hiok.out Hr.out (Hmok.out.same (M' := { M with steps := M.steps + 1, seen := M.seen ++ [⟨1, M.at_, 0⟩] }) rfl rfl) (by simp; omega) w5 (HR.out _ HB.out) PP.out
    unfold WordPost at CW
    simp only [insV] at CW
    (with_reducible refine CW.mono ?_)
    clear CW
    rintro e w6 hpost
    cases hin : insideB p ⟨op, a, b, c, n⟩ (idxOf M.regs ⟨op, a, b, c, n⟩)
    · have hpost : e = .returned (.bool false) ∧ Ext w5 w6 := by
        rcases hpost with ⟨h1, -⟩ | ⟨-, h2⟩
        · try simp only at h1
          rw [hin] at h1; cases h1
        · exact h2
      obtain ⟨rfl, hx⟩ := hpost
      have Hs := Lib.hid (step_fault (M := M) Hw.out hin)
      have HB := Lib.hid (HB.out.trans hx)
      have PP := Lib.hid (PP.out.ext hx)
      obtain ⟨-, -, g2, -, -, -, -, -, g18, -⟩ := PP.out.cells
      have hgl := PP.out.box.lt
      simp only at g2 g18
      clear hx hin
      go_wp2
      try refine bodyPost_end (results_none rfl _ _ _) rfl ?_
      refine HSP.out vS2 _ ?_ ((HB.out.setCell PP.out.hg _).setCell PP.out.hg _)
      have := (PP.out.fin_ 2).at__ (M.at_ + 1)
      rw [show ((M.at_ + 1 : Nat) : Int) = (M.at_ : Int) + 1 by omega] at this
      rw [Hs.out]
      exact this
    · have hpost : e = .returned (.bool true) ∧ ∃ vS', MSt w6 wB.heap.size g vR (.slice oc p.code.length capc) vM vB vS' vW (basesOf p) (wordM p ⟨op, a, b, c, n⟩ { M with steps := M.steps + 1, seen := M.seen ++ [⟨1, M.at_, 0⟩] }) ∧ Below wB.heap.size w5 w6 := by
        rcases hpost with ⟨-, h2⟩ | ⟨h1, -⟩
        · exact h2
        · try simp only at h1
          rw [hin] at h1; cases h1
      obtain ⟨rfl, vS3, P5, hbb⟩ := hpost
      have Hs := Lib.hid (step_word (M := M) Hw.out hin)
      have HB : Hid (Ext wB w6) := Lib.hid (Below.trans HB.out hbb)
      have PP := Lib.hid P5
      obtain ⟨-, -, g2, -, -, -, -, -, g18, -⟩ := P5.cells
      have hgl := P5.box.lt
      clear P5 hbb hin
      generalize wordM p ⟨op, a, b, c, n⟩ { M with steps := M.steps + 1, seen := M.seen ++ [⟨1, M.at_, 0⟩] } = MW at *
      go_wp2
      try refine bodyPost_end (results_none rfl _ _ _) rfl ?_
      refine HSP.out vS3 _ ?_ (HB.out.setCell PP.out.hg _)
      have := PP.out.at__ (M.at_ + 1)
      rw [show ((M.at_ + 1 : Nat) : Int) = (M.at_ : Int) + 1 by omega] at this
      rw [Hs.out]
      exact this
  have hplain : op ≠ 3 ∧ op ≠ 4 ∧ op ≠ 5 ∧ op ≠ 6 ∧ op ≠ 7 ∧ op ≠ 8 ∧ op ≠ 9 := ⟨by omega, by omega, by omega, by omega, h7, h8, h9⟩
  have hb7 : (op == (7 : Int)) = false := by simp; omega
  have hb8 : (op == (8 : Int)) = false := by simp; omega
  have hb9 : (op == (9 : Int)) = false := by simp; omega
  have Hs := Lib.hid (step_plain (p := p) (M := M) (i := ⟨op, a, b, c, n⟩) hplain)
  have Hpl := Lib.hid hplain
  have CP := puts_c ⟨op, a, b, c, n⟩ w3
  rw [show isPut ⟨op, a, b, c, n⟩ = false by unfold isPut; simp only; simp; omega] at CP
  simp only [insV] at CP
  clear hplain
  go_wp2_with fail
  (with_reducible refine CP.mono ?_)
  clear CP
  rintro e w4 ⟨rfl, hx⟩
  clear g2 g3 Hreg
  have HB := Lib.hid (HB.out.trans hx)
  have PP := Lib.hid (PP.out.ext hx)
  have i0 := hx.kept i0
  have i1 := hx.kept i1
  have i2 := hx.kept i2
  have i3 := hx.kept i3
  have i4 := hx.kept i4
  have g18 := kept2 hx g18
  clear hx
  go_wp2_with fail
  have CT := takes_c ⟨op, a, b, c, n⟩ w4
  rw [show isTake ⟨op, a, b, c, n⟩ = false by unfold isTake; simp only; simp; omega] at CT
  simp only [insV] at CT
  (with_reducible refine CT.mono ?_)
  clear CT
  rintro e w5 ⟨rfl, hx⟩
  have HB := Lib.hid (HB.out.trans hx)
  have PP := Lib.hid (PP.out.ext hx)
  have i0 := hx.kept i0
  have i1 := hx.kept i1
  have i2 := hx.kept i2
  have i3 := hx.kept i3
  have i4 := hx.kept i4
  have g18 := kept2 hx g18
  clear hx
  go_wp2_with fail
  have CQ := plain_c (M := { M with steps := M.steps + 1, seen := M.seen ++ [⟨1, M.at_, 0⟩] }) p ⟨op, a, b, c, n⟩ Hmok.out.r64 Hiok.out Hpl.out (by simp; omega) w5 PP.out
  unfold PlainPost at CQ
  simp only [insV] at CQ
  (with_reducible refine CQ.mono ?_)
  clear CQ
  rintro e w6 ⟨rfl, vS3, P5, T5, -⟩
  have HB : Hid (Ext wB w6) := Lib.hid (Below.trans HB.out (PP.out.below T5))
  have PP := Lib.hid P5
  obtain ⟨-, -, -, -, -, -, -, -, g18, -⟩ := P5.cells
  have hgl := P5.box.lt
  simp only at g18
  clear P5 T5
  go_wp2
  try refine bodyPost_end (results_none rfl _ _ _) rfl ?_
  refine HSP.out vS3 _ ?_ (HB.out.setCell PP.out.hg _)
  have := PP.out.at__ (M.at_ + 1)
  rw [show ((M.at_ + 1 : Nat) : Int) = (M.at_ : Int) + 1 by omega] at this
  rw [Hs.out]
  exact this
end Go.Proofs.Yteiknefajlocoaa
