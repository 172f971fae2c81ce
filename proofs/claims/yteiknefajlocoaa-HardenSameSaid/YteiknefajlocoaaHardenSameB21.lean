/- Laid together from: Ref3d, FormF. -/
import Derived.Test.YteiknefajlocoaaHardenSameB15
import Derived.Test.YteiknefajlocoaaHardenSameB17

/- Walk of the reference's Play. -/
namespace Go.Proofs.Yteiknefajlocoaa
open Go.ChangeShapes Go.WideShapes Go.ChangeAt Go.RowKit
set_option linter.unusedVariables false
set_option linter.unusedSimpArgs false

def ten : Array Value := regV (List.replicate 10 0)
theorem make_ten (W : World) : (Instr.makeSlice 71 (.int .i64 10) (.int .i64 10)).run Try.prog W = .ok (.slice (some ⟨W.heap.size, 0, none⟩) 10 10) (W.alloc (.cells ten 2)) := by kernel_rfl
def PlayPost (p : LProg) (M : Mach) (w : World) (e : Ending) (w' : World) : Prop := ∃ u, e = .returned u ∧ ShownAt w' u M.fin M.value M.steps M.seen (splitW p M.words) ∧ Ext w w'
set_option maxRecDepth 100000 in
set_option maxHeartbeats 40000000 in
theorem rPlay_c (p : LProg) (m : List (List Int)) (fuel : Int) (v vm : Value) (w : World) (hp : ProgAt w v p) (hm : MemAt w vm m) (hh : hardOk p = true) (hf : fitsOk p m = true) (hfu : fuel ≤ 40000) (hf64 : R64 fuel) :
    Calls Try.prog 28 #[v, vm, .int .i64 fuel] w (PlayPost p (runM p fuel.toNat (start m.flatten)) w) := by
  have hm64 : ∀ l ∈ m, ∀ x ∈ l, R64 x := by
    obtain ⟨oa, cap, b, o, rfl, hc1, hc2, vs0, hrow, hin⟩ := hm
    intro l hl x hx
    obtain ⟨i, hi, rfl⟩ := List.getElem_of_mem hl
    have := (hin i hi).1
    simp only [List.getD_eq_getElem?_getD, List.getElem?_eq_getElem hi, Option.getD_some] at this
    exact this x hx
  obtain ⟨hl1, hl2⟩ := fits_len hf
  obtain ⟨hr, hc1, hc2, hall⟩ := hard_parts hh
  have hmlen : m.length ≤ 6 := by have := regsOk_len hr; omega
  have hm64' : ∀ l ∈ m, l.length ≤ 64 := by
    intro l hl
    obtain ⟨i, hi, rfl⟩ := List.getElem_of_mem hl
    have h := hl2 i (by omega)
    have e : m.getD i default = m[i] := by simp [hi]
    rw [e] at h
    rw [h]
    exact words_le _ (regsOk_log hr _ (getD_mem (by omega))).2
  have HP := Lib.hid hp
  have HM := Lib.hid hm
  have Hgood := Lib.hid (mgood_start hf hm64)
  have Hh := Lib.hid hh
  have Hf := Lib.hid hf
  have Hall := Lib.hid hall
  have Hm6 := Lib.hid hmlen
  have Hm64 := Lib.hid hm64'
  have Hf64 := Lib.hid hf64
  obtain ⟨o1, s1, o2, s2, rfl⟩ : ∃ a c b d, v = .agg #[.slice a p.regs.length c, .slice b p.code.length d] := by
    obtain ⟨v1, v2, rfl, ⟨-, oa, cap, b, o, rfl, -⟩, ⟨-, ob, capb, b2, o2, rfl, -⟩⟩ := hp
    exact ⟨_, _, _, _, rfl⟩
  clear hp hm hf hh hl1 hl2 hr hall hmlen hm64 hm64' hf64
  generalize hF : runM p fuel.toNat (start m.flatten) = F
  have HF := Lib.hid hF
  clear hF
  have hmk := make_ten
  go_enter Try.func28, Try.ntmps28
  go_wp2_with fail
  obtain ⟨W, gb, hg, hW, hx, bP, bR⟩ := blocks2 w #[.slice o1 p.regs.length s1, .slice o2 p.code.length s2] #[.int .i64 0, .int .i64 0, .int .i64 0, .slice none 0 0, .slice none 0 0] 25 36
  rw [hW, hg]
  have X := Lib.hid hx
  have hgb : w.heap.size ≤ gb := by omega
  clear hW hg hx
  have C := rCopy_c m vm W (HM.out.ext X.out) Hm6.out Hm64.out
  (with_reducible refine C.mono ?_)
  clear C
  rintro e w1 ⟨u, rfl, hmo, hx1⟩
  obtain ⟨um, cm, rfl⟩ : ∃ a c, u = .slice a m.length c := by
    obtain ⟨vs, h1, h2, -⟩ := hmo
    exact own_slice h2
  have HMo := Lib.hid hmo
  have X1 := Lib.hid hx1
  clear hmo hx1
  go_wp2_with fail
  obtain ⟨w2, gs, hgs, hW, hx2, bS, bK⟩ := blocks2 w1 #[.int .i64 0, .int .i64 0, .int .i64 0, .slice none 0 0, .slice um m.length cm] ten 36 2
  rw [hW, hgs]
  have hU : w1.heap.size = gs := hgs
  have hWg : gb + 1 < W.heap.size := bR.lt
  have P0 : PSt W w2 gs gs (gs + 1) (.slice none 0 0) (.slice um m.length cm) 0 0 0 (List.replicate 10 0) [] m := by
    have hmo := HMo.out
    rw [hU] at hmo
    refine ⟨bS, bK, World.ownsRow_nil _ _ _ _, hmo.below ?_, X1.out.trans hx2, ?_, Nat.le_refl _, by omega⟩
    · rw [← hU]; exact hx2
    · have := X1.out.size; omega
  have BP0 := Lib.hid bP
  have BR0 := Lib.hid bR
  have Hfits : Hid (∀ i ∈ p.code, i.fits) := Lib.hid (by
    obtain ⟨v1, v2, hv, h1, h2⟩ := HP.out
    exact h2.1)
  clear hW hgs hx2 bS bK
  have hU0 : gs + 1 ≤ 9223372036854775807 → True := fun _ => trivial
  clear hU0
  go_loopw [9] (fun i wr => ∃ (M : Mach) (vS vM : Value), i = .int .i64 M.at_ ∧ M.fin = 0 ∧ M.steps ≤ fuel.toNat ∧ MGood p M ∧ runM p (fuel.toNat - M.steps) M = F ∧ PSt W wr gs gs (gs + 1) vS vM M.fin M.value M.steps M.regs M.seen (splitW p M.words)) (fun _ wr => fuel.toNat - stepsAt wr gs)
  case atStart =>
    exact ⟨start m.flatten, _, _, rfl, rfl, by simp [start], Hgood.out, by simpa [start] using HF.out, by simpa [start, split_flat Hf.out] using P0⟩
  case round =>
    obtain ⟨M, vS, vM, rfl, hfin, hst, hgo, hrun, P⟩ := hrel
    have bP := bP.ext P.bel
    have bR := bR.ext P.bel
    have hfu0 := Hf64.out
    by_cases hlt : (M.steps : Int) < fuel
    · have hmeas : stepsAt wr gs = M.steps := stepsAt_of P
      have Hmeas := Lib.hid hmeas
      have hrow2 : ∃ b2 c2, Rows wr o2 b2 c2 p.code.length 5 fun i => insCell (p.code.getD i default) := by
        obtain ⟨v1, v2, hv, h1, ⟨-, oa, cap, b, o, rfl, -, -, hr⟩⟩ := HP.out
        simp only [Value.agg.injEq, Array.mk.injEq, List.cons.injEq, and_true, Value.slice.injEq] at hv
        obtain ⟨-, rfl, -, -⟩ := hv
        exact ⟨b, o, hr.ext (X.out.trans P.bel)⟩
      obtain ⟨b2, c2, hrow⟩ := hrow2
      have hix := index_code (cap := s2) hrow.at_
      have Hrow := Lib.hid hrow
      have Hgo := Lib.hid hgo
      have Hrun := Lib.hid hrun
      have Hfin := Lib.hid hfin
      have PP := Lib.hid P
      obtain ⟨g0, g1, g2, g3, g4⟩ := P.cells
      have hgl := P.box.lt
      have hbl := bP.lt
      have hrl := bR.lt
      have hatle := hgo.at_
      have pb1 : wr.cell? ⟨gb, 1, none⟩ = some (.slice o2 p.code.length s2) := by rw [bP.cell]; rfl
      have hsl := hgo.seen
      obtain ⟨ov, ovc, rfl⟩ := own_slice P.sn
      obtain ⟨om, omc, rfl⟩ : ∃ a c, vM = .slice a (splitW p M.words).length c := by
        obtain ⟨vs, h1, h2, -⟩ := P.mm
        exact own_slice h2
      clear hmeas hrow hgo hrun P hfin
      by_cases hat : M.at_ < p.code.length
      · obtain ⟨e0, e1, e2, e3, e4⟩ := Hrow.out.ins M.at_ hat
        have hbl2 := block_lt e0
        simp only at hbl2
        have Hi := Lib.hid (show p.code[M.at_]? = some (p.code.getD M.at_ default) by simp [hat])
        have Hok := Lib.hid (Hall.out _ (getD_mem hat))
        obtain ⟨i0', hi0', hz0', hz1', hz2'⟩ := info_parts infoSee
        have Hfi := Lib.hid (Hfits.out _ (getD_mem hat))
        generalize p.code.getD M.at_ default = i at *
        obtain ⟨op, a, b, c, n⟩ := i
        simp only at e0 e1 e2 e3 e4
        have hN := Lib.hid (play_next Hgo.out Hi.out Hok.out Hfi.out (show M.steps < fuel.toNat by omega) Hfin.out Hrun.out)
        have hL := Lib.hid (play_last Hgo.out Hi.out Hok.out Hfi.out (show M.steps < fuel.toNat by omega) Hfin.out Hrun.out)
        go_wp2_with (at_builtin; refine wpList_append_src _ rfl _ _ 34 rfl gs 98 i0' _ 3 24 Try.underlying34 hi0' hz0' hz1' hz2' rfl (by decide) _ _ _ rfl (own_alloc (own_alloc (own_far PP.out.sn PP.out.sg _))) (some ⟨wr.heap.size + 1, 0, none⟩) 1 1 (seeCells ⟨1, M.at_, 0⟩) rfl ?c1 ?c3 ?c4 ?c5 ?_)
        case c1 =>
          have hb := Blk.new ((wr.setCell ⟨gs, 2, none⟩ (.int .i64 ((M.steps : Int) + 1))).alloc (.cells #[.int .i64 op, .int .i64 a, .int .i64 b, .int .i64 c, .int .i64 n] 70)) 98 #[.int .i64 1, .int .i64 M.at_, .int .i64 0]
          simp only [World.size_alloc, setCell_size] at hb
          exact src_new (size := 3) hb rfl (by simp [Value.oneCell'])
        case c3 => unfold maxLen; omega
        case c4 => omega
        case c5 => simp [setCell_size]; omega
        intro vS' w3 hown hgrow hat'
        clear hat'
        obtain ⟨ow, owc, rfl⟩ := own_slice hown
        have P1 := ((PP.out.field 2 (.int .i64 ((M.steps : Int) + 1)) (fin' := M.fin) (value' := M.value) (steps' := M.steps + 1) (by simp)).ext ((Ext.refl _).alloc (.cells #[.int .i64 op, .int .i64 a, .int .i64 b, .int .i64 c, .int .i64 n] 70))).ext ((Ext.refl _).alloc (.cells #[.int .i64 1, .int .i64 M.at_, .int .i64 0] 98))
        have bS3 := P1.show1 (vS' := .slice ow (M.seen.length + 1) owc) hgrow
        have bI := Blk.new (wr.setCell ⟨gs, 2, none⟩ (.int .i64 ((M.steps : Int) + 1))) 70 #[.int .i64 op, .int .i64 a, .int .i64 b, .int .i64 c, .int .i64 n]
        rw [setCell_size] at bI
        have bI := (bI.alloc (.cells #[.int .i64 1, .int .i64 M.at_, .int .i64 0] 98))
        have hneI := own_ne P1.sn bI (by decide)
        have bI := bI.grown hgrow hneI
        have hIg : wr.heap.size ≠ gs := by omega
        have P2 := P1.show2 (seen' := M.seen ++ [⟨1, M.at_, 0⟩]) hgrow (by simpa using hown)
        have PP := Lib.hid P2
        have p3 : w3.cell? ⟨gs, 3, none⟩ = some (.slice ov M.seen.length ovc) ∧ w3.frozen? ⟨gs, 3, none⟩ = false := ⟨by rw [bS3.cell]; rfl, bS3.frozen 3⟩
        have i0 : w3.cell? ⟨wr.heap.size, 0, none⟩ = some (.int .i64 op) := by rw [bI.cell]; rfl
        have i1 : w3.cell? ⟨wr.heap.size, 1, none⟩ = some (.int .i64 a) := by rw [bI.cell]; rfl
        have i2 : w3.cell? ⟨wr.heap.size, 2, none⟩ = some (.int .i64 b) := by rw [bI.cell]; rfl
        have i3 : w3.cell? ⟨wr.heap.size, 3, none⟩ = some (.int .i64 c) := by rw [bI.cell]; rfl
        have i4 : w3.cell? ⟨wr.heap.size, 4, none⟩ = some (.int .i64 n) := by rw [bI.cell]; rfl
        have bI := bI.far (p := ⟨gs, 3, none⟩) hIg (.slice ow (M.seen.length + 1) owc)
        clear P1 P2 bS3 hown hgrow hneI g0 g1 g2 g3 g4 e0 e1 e2 e3 e4 pb1
        generalize wr.heap.size = ib at *
        go_wp2_with fail
        have C := rPut3_c ⟨op, a, b, c, n⟩ (w3.setCell ⟨gs, 3, none⟩ (.slice ow (M.seen.length + 1) owc))
        simp only [insV] at C
        (with_reducible refine C.mono ?_)
        clear C
        rintro e w4 ⟨rfl, hx⟩
        have bI := bI.ext hx
        have PP := Lib.hid (PP.out.ext hx)
        clear hx p3 i0 i1 i2 i3 i4 bP bR
        obtain ⟨g0, g1, g2, g3, g4⟩ := PP.out.cells
        have i0 : w4.cell? ⟨ib, 0, none⟩ = some (.int .i64 op) := by rw [bI.cell]; rfl
        have i1 : w4.cell? ⟨ib, 1, none⟩ = some (.int .i64 a) := by rw [bI.cell]; rfl
        have i2 : w4.cell? ⟨ib, 2, none⟩ = some (.int .i64 b) := by rw [bI.cell]; rfl
        have i3 : w4.cell? ⟨ib, 3, none⟩ = some (.int .i64 c) := by rw [bI.cell]; rfl
        have i4 : w4.cell? ⟨ib, 4, none⟩ = some (.int .i64 n) := by rw [bI.cell]; rfl
        simp only
        by_cases h7 : op = 7
        · subst h7
          have hpv : putV 7 = -1 := rfl
          have Hs : Hid (stepM p ⟨7, a, b, c, n⟩ M = { M with at_ := n.toNat, steps := M.steps + 1, seen := M.seen ++ [⟨1, M.at_, 0⟩] }) := Lib.hid rfl
          have hn := (ins_regs Hok.out).2.2.2.2.2.2.2.2.2.1 (.inl rfl)
          simp only at hn
          have Hn : Hid (n = ((n.toNat : Nat) : Int)) := Lib.hid (by omega)
          clear hn
          go_wp2
          go_roundw
          case rel => exact ⟨stepM p ⟨7, a, b, c, n⟩ M, _, _, by rw [Hs.out]; exact congrArg (Value.int IntKind.i64) Hn.out, by rw [Hs.out]; first | exact Hfin.out | rfl, hN.out.2.1, hN.out.1, hN.out.2.2, by rw [Hs.out]; exact PP.out⟩
          case measure =>
            have e1 := Hmeas.out
            have e2 := stepsAt_of (PP.out)
            rw [e1, e2]; omega
        by_cases h8 : op = 8
        · subst h8
          have hpv : putV 8 = -1 := rfl
          have hn := (ins_regs Hok.out).2.2.2.2.2.2.2.2.2.1 (.inr rfl)
          obtain ⟨ha, hb, -, -⟩ := (ins_regs Hok.out).2.2.2.2.2.1 rfl
          simp only at hn ha hb
          have Hn : Hid (n = ((n.toNat : Nat) : Int)) := Lib.hid (by omega)
          obtain ⟨a0, a1⟩ := okIn_iff.1 ha
          obtain ⟨b0, b1⟩ := okIn_iff.1 hb
          obtain ⟨ra, -⟩ := reg_cell PP.out.rg Hgo.out.ok.len ha
          obtain ⟨rb, -⟩ := reg_cell PP.out.rg Hgo.out.ok.len hb
          obtain ⟨va0, va1⟩ := rg64 Hgo.out.ok.r64 a
          obtain ⟨vb0, vb1⟩ := rg64 Hgo.out.ok.r64 b
          have k1 : ∀ W, Ext w4 W → W.cell? ⟨ib, 1, none⟩ = some (.int .i64 a) := fun _ h => h.kept i1
          have k2 : ∀ W, Ext w4 W → W.cell? ⟨ib, 2, none⟩ = some (.int .i64 b) := fun _ h => h.kept i2
          have k3 : ∀ W, Ext w4 W → W.cell? ⟨ib, 3, none⟩ = some (.int .i64 c) := fun _ h => h.kept i3
          have ma : ∀ W, Ext w4 W → W.cell? ⟨gs + 1, a.toNat, none⟩ = some (.int .i64 (rg M.regs a)) := fun _ h => h.kept ra
          have mb : ∀ W, Ext w4 W → W.cell? ⟨gs + 1, b.toNat, none⟩ = some (.int .i64 (rg M.regs b)) := fun _ h => h.kept rb
          have hixr := index_row
          clear hn i1 i2 i3 ra rb
          cases hh : nholds c (rg M.regs a) (rg M.regs b)
          · have Hs : Hid (stepM p ⟨8, a, b, c, n⟩ M = { M with at_ := M.at_ + 1, steps := M.steps + 1, seen := M.seen ++ [⟨1, M.at_, 0⟩] }) := Lib.hid (by
              unfold stepM
              simp only
              rw [if_neg (by omega), if_pos trivial, if_neg (by rw [hh]; simp)])
            have C8 : ∀ W, Calls Try.prog 64 #[.int .i64 c, .int .i64 (rg M.regs a), .int .i64 (rg M.regs b)] W fun e w' => e = .returned (.bool false) ∧ W = w' := fun W => by
              have := refHolds_c c (rg M.regs a) (rg M.regs b) W va0 va1 vb0 vb1
              rw [hh] at this
              exact this
            have C8 := Lib.hid C8
            clear hh va0 va1 vb0 vb1
            go_upto_region 18 with fail
            refine region_calm 13 (by kernel_rfl) (by kernel_rfl) ?_
            simp only [List.take_succ_cons, List.take_zero, List.drop_succ_cons, List.drop_zero]
            repeat (first | (refine calm_fresh ?_ ?_ (fun wc hE => ?_) ?_; (decide); rfl; (focus (go_simp; done)); go_simp) | (refine calm_value ?_ ?_ ?_; (decide); (first | rfl | (focus (go_simp; done))); apply Exists.intro; refine ⟨fun wc hE => ?_, ?_⟩; (go_simp; exact rfl); go_simp) | (refine calm_call ?_ ?_ ?_; (decide); (first | rfl | (focus (go_simp; done))); apply Exists.intro; refine ⟨fun wc hE => ?_, ?_⟩; (go_simp; (first | (with_reducible exact calm_enter_same (C8.out _)))); go_simp) | (refine calm_skip ?_ ?_ ?_; (decide); (focus (go_simp; done)); go_simp))
            refine calm_nil ?_
            intro wx hx
            have i4 := hx.kept i4
            have PP := Lib.hid (PP.out.ext hx)
            clear hx k1 k2 k3 ma mb g0 g1 g2 g3 g4
            go_wp2
            go_roundw
            case rel => exact ⟨stepM p ⟨8, a, b, c, n⟩ M, _, _, by rw [Hs.out]; go_num, by rw [Hs.out]; first | exact Hfin.out | rfl, hN.out.2.1, hN.out.1, hN.out.2.2, by rw [Hs.out]; exact PP.out⟩
            case measure =>
              have e1 := Hmeas.out
              have e2 := stepsAt_of (PP.out)
              rw [e1, e2]; omega
          · have Hs : Hid (stepM p ⟨8, a, b, c, n⟩ M = { M with at_ := n.toNat, steps := M.steps + 1, seen := M.seen ++ [⟨1, M.at_, 0⟩] }) := Lib.hid (by
              unfold stepM
              simp only
              rw [if_neg (by omega), if_pos trivial, if_pos hh])
            have C8 : ∀ W, Calls Try.prog 64 #[.int .i64 c, .int .i64 (rg M.regs a), .int .i64 (rg M.regs b)] W fun e w' => e = .returned (.bool true) ∧ W = w' := fun W => by
              have := refHolds_c c (rg M.regs a) (rg M.regs b) W va0 va1 vb0 vb1
              rw [hh] at this
              exact this
            have C8 := Lib.hid C8
            clear hh va0 va1 vb0 vb1
            go_upto_region 18 with fail
            refine region_calm 13 (by kernel_rfl) (by kernel_rfl) ?_
            simp only [List.take_succ_cons, List.take_zero, List.drop_succ_cons, List.drop_zero]
            repeat (first | (refine calm_fresh ?_ ?_ (fun wc hE => ?_) ?_; (decide); rfl; (focus (go_simp; done)); go_simp) | (refine calm_value ?_ ?_ ?_; (decide); (first | rfl | (focus (go_simp; done))); apply Exists.intro; refine ⟨fun wc hE => ?_, ?_⟩; (go_simp; exact rfl); go_simp) | (refine calm_call ?_ ?_ ?_; (decide); (first | rfl | (focus (go_simp; done))); apply Exists.intro; refine ⟨fun wc hE => ?_, ?_⟩; (go_simp; (first | (with_reducible exact calm_enter_same (C8.out _)))); go_simp) | (refine calm_skip ?_ ?_ ?_; (decide); (focus (go_simp; done)); go_simp))
            refine calm_nil ?_
            intro wx hx
            have i4 := hx.kept i4
            have PP := Lib.hid (PP.out.ext hx)
            clear hx k1 k2 k3 ma mb g0 g1 g2 g3 g4
            go_wp2
            go_roundw
            case rel => exact ⟨stepM p ⟨8, a, b, c, n⟩ M, _, _, by rw [Hs.out]; exact congrArg (Value.int IntKind.i64) Hn.out, by rw [Hs.out]; first | exact Hfin.out | rfl, hN.out.2.1, hN.out.1, hN.out.2.2, by rw [Hs.out]; exact PP.out⟩
            case measure =>
              have e1 := Hmeas.out
              have e2 := stepsAt_of (PP.out)
              rw [e1, e2]; omega
        by_cases h9 : op = 9
        · subst h9
          have hpv : putV 9 = -1 := rfl
          have ha := (ins_regs Hok.out).2.2.2.2.2.2.1 rfl
          simp only at ha
          obtain ⟨a0, a1⟩ := okIn_iff.1 ha
          obtain ⟨ra, -⟩ := reg_cell PP.out.rg Hgo.out.ok.len ha
          have hixr := index_row
          have Hs : Hid (stepM p ⟨9, a, b, c, n⟩ M = { M with at_ := M.at_ + 1, steps := M.steps + 1, seen := M.seen ++ [⟨1, M.at_, 0⟩], fin := 1, value := rg M.regs a }) := Lib.hid rfl
          have Hlast : Hid (F = { M with at_ := M.at_ + 1, steps := M.steps + 1, seen := M.seen ++ [⟨1, M.at_, 0⟩], fin := 1, value := rg M.regs a }) := Lib.hid ((hL.out (by rw [Hs.out]; simp)).trans Hs.out)
          have bR := BR0.out.ext PP.out.bel
          have q0 : w4.cell? ⟨gb + 1, 0, none⟩ = some (.int .i64 0) ∧ w4.frozen? ⟨gb + 1, 0, none⟩ = false := ⟨by rw [bR.cell]; rfl, bR.frozen _⟩
          have q1 : w4.cell? ⟨gb + 1, 1, none⟩ = some (.int .i64 0) ∧ w4.frozen? ⟨gb + 1, 1, none⟩ = false := ⟨by rw [bR.cell]; rfl, bR.frozen _⟩
          have q2 : w4.cell? ⟨gb + 1, 2, none⟩ = some (.int .i64 0) ∧ w4.frozen? ⟨gb + 1, 2, none⟩ = false := ⟨by rw [bR.cell]; rfl, bR.frozen _⟩
          have q3 : w4.cell? ⟨gb + 1, 3, none⟩ = some (.slice none 0 0) ∧ w4.frozen? ⟨gb + 1, 3, none⟩ = false := ⟨by rw [bR.cell]; rfl, bR.frozen _⟩
          have q4 : w4.cell? ⟨gb + 1, 4, none⟩ = some (.slice none 0 0) ∧ w4.frozen? ⟨gb + 1, 4, none⟩ = false := ⟨by rw [bR.cell]; rfl, bR.frozen _⟩
          have hgg1 : gb + 1 ≠ gs := by have := PP.out.bu; omega
          have hgg2 : gs ≠ gb + 1 := by omega
          have PE := Lib.hid ((PP.out.field 0 (.int .i64 1) (fin' := 1) (value' := M.value) (steps' := M.steps + 1) rfl).field 1 (.int .i64 (rg M.regs a)) (fin' := 1) (value' := rg M.regs a) (steps' := M.steps + 1) rfl)
          have bE := (bR.far (p := ⟨gs, 0, none⟩) hgg1 (.int .i64 1)).far (p := ⟨gs, 1, none⟩) hgg1 (.int .i64 (rg M.regs a))
          have Hw64 := Lib.hid Hgo.out.ok.w64
          go_wp2
          have hE := play_end (M := { M with at_ := M.at_ + 1, steps := M.steps + 1, seen := M.seen ++ [⟨1, M.at_, 0⟩], fin := 1, value := rg M.regs a }) (PE.out) (Hw64.out) (bE) (Nat.le_succ_of_le hgb) hWg X.out rfl
          have HE := Lib.hid hE
          clear hE
          exact bodyPost_ret (results_blk (HE.out.1) rfl _ rfl Try.underlying36 rfl (by kernel_rfl)) rfl ⟨_, rfl, by rw [Hlast.out]; exact HE.out.2⟩
        by_cases hw : op = 3 ∨ op = 5
        · have hpv : putV op = 0 := by unfold putV; rw [if_pos hw]
          have hw' : op = 3 ∨ op = 4 ∨ op = 5 ∨ op = 6 := by omega
          have Hw' := Lib.hid hw'
          obtain ⟨ha, hb, hc0', hc1'⟩ := word_parts Hok.out hw'
          simp only at ha hb hc0' hc1'
          obtain ⟨a0, a1⟩ := okIn_iff.1 ha
          have hb7 : (op == (7 : Int)) = false := by simp; omega
          have hb8 : (op == (8 : Int)) = false := by simp; omega
          have hb9 : (op == (9 : Int)) = false := by simp; omega
          have Hcr := Lib.hid hc1'
          have hrow := split_row Hgo.out.ok.wlen hc1'
          have hcm : c.toNat < (splitW p M.words).length := by rw [split_len]; exact hc1'
          obtain ⟨ko, capo, kk, capk, hvM, hBko, hBkk, hkkU, hko, hkx⟩ := PP.out.mm.at_ hcm (by rw [hrow]; exact words_pos _)
          simp only [Value.slice.injEq] at hvM
          obtain ⟨rfl, -, rfl⟩ := hvM
          obtain ⟨hr, -, -, -⟩ := hard_parts Hh.out
          have hw64 : wordsOf (p.regs.getD c.toNat default) ≤ 64 := words_le _ (regsOk_log hr _ (getD_mem hc1')).2
          have hbt := base_end p c.toNat hc1'
          have htt := total_le hr
          have Hr := Lib.hid hr
          have HkxA := Lib.hid hkx
          have Hrow2 := Lib.hid hrow
          rw [hrow] at hko
          have hml : (splitW p M.words).length = p.regs.length := split_len p _
          have hp6 := regsOk_len hr
          have C := rIndex_c (gs + 1) M.regs 2 ⟨op, a, b, c, n⟩ Hgo.out.ok.len hb w4 PP.out.rg
          simp only [insV] at C
          have C := Lib.hid C
          have hci : c < ((splitW p M.words).length : Int) := by rw [hml]; omega
          clear hr hrow hcm hkx hw' hml
          go_wp2_with fail
          (with_reducible refine C.out.mono ?_)
          clear C
          rintro e w5 ⟨rfl, hx⟩
          have PP := Lib.hid (PP.out.ext hx)
          have i0 := hx.kept i0
          have i1 := hx.kept i1
          have i2 := hx.kept i2
          have i3 := hx.kept i3
          have i4 := hx.kept i4
          have g0 := kept2 hx g0
          have g3 := kept2 hx g3
          have g4 := kept2 hx g4
          have hko := hx.kept hko
          have HkxA : Hid (∀ x, x < ((splitW p M.words).getD c.toNat default).length → w5.cell? ⟨kk, x, none⟩ = some (.int .i64 (((splitW p M.words).getD c.toNat default).getD x 0)) ∧ w5.frozen? ⟨kk, x, none⟩ = false) := Lib.hid fun x h => kept2 hx (HkxA.out x h)
          have HbI := Lib.hid (bI.ext hx)
          have Hcm := Lib.hid (show c.toNat < (splitW p M.words).length by rw [split_len]; exact Hcr.out)
          clear hx g1 g2 bI
          have hixm := index_mem' (oa := some ⟨ko, 0, none⟩) (n := (splitW p M.words).length) (b := ko) (o := 0) (cap := omc) (fun _ => rfl)
          have hixr := index_row
          have hkk1 : kk < gs := hkkU
          cases hin : insideB p ⟨op, a, b, c, n⟩ (idxOf M.regs ⟨op, a, b, c, n⟩)
          · have Hs := Lib.hid (step_fault (M := M) Hw'.out hin)
            have Hlast : Hid (F = { M with at_ := M.at_ + 1, steps := M.steps + 1, seen := M.seen ++ [⟨1, M.at_, 0⟩], fin := 2 }) := Lib.hid ((hL.out (by rw [Hs.out]; simp)).trans Hs.out)
            have bR := BR0.out.ext PP.out.bel
            have q0 : w5.cell? ⟨gb + 1, 0, none⟩ = some (.int .i64 0) ∧ w5.frozen? ⟨gb + 1, 0, none⟩ = false := ⟨by rw [bR.cell]; rfl, bR.frozen _⟩
            have q1 : w5.cell? ⟨gb + 1, 1, none⟩ = some (.int .i64 0) ∧ w5.frozen? ⟨gb + 1, 1, none⟩ = false := ⟨by rw [bR.cell]; rfl, bR.frozen _⟩
            have q2 : w5.cell? ⟨gb + 1, 2, none⟩ = some (.int .i64 0) ∧ w5.frozen? ⟨gb + 1, 2, none⟩ = false := ⟨by rw [bR.cell]; rfl, bR.frozen _⟩
            have q3 : w5.cell? ⟨gb + 1, 3, none⟩ = some (.slice none 0 0) ∧ w5.frozen? ⟨gb + 1, 3, none⟩ = false := ⟨by rw [bR.cell]; rfl, bR.frozen _⟩
            have q4 : w5.cell? ⟨gb + 1, 4, none⟩ = some (.slice none 0 0) ∧ w5.frozen? ⟨gb + 1, 4, none⟩ = false := ⟨by rw [bR.cell]; rfl, bR.frozen _⟩
            have hgg1 : gb + 1 ≠ gs := by have := PP.out.bu; omega
            have hgg2 : gs ≠ gb + 1 := by omega
            have PE := Lib.hid (PP.out.field 0 (.int .i64 2) (fin' := 2) (value' := M.value) (steps' := M.steps + 1) rfl)
            have bE := bR.far (p := ⟨gs, 0, none⟩) hgg1 (.int .i64 2)
            have Hw64 := Lib.hid Hgo.out.ok.w64
            have hin' : idxOf M.regs ⟨op, a, b, c, n⟩ < 0 ∨ (wordsOf (p.regs.getD c.toNat default) : Int) ≤ idxOf M.regs ⟨op, a, b, c, n⟩ := by
              have hin2 := hin
              unfold insideB regOf at hin2
              simp only at hin2
              rw [Bool.and_eq_false_iff] at hin2
              simp only [decide_eq_false_iff_not] at hin2
              omega
            clear hin
            generalize idxOf M.regs ⟨op, a, b, c, n⟩ = x at *
            generalize wordsOf (p.regs.getD c.toNat default) = L at *
            obtain ⟨g0', g1', g2', g3', g4'⟩ := PP.out.cells
            clear g0 g3 g4
            rcases hin' with hin' | hin'
            · go_wp2
              have hE := play_end (M := { M with at_ := M.at_ + 1, steps := M.steps + 1, seen := M.seen ++ [⟨1, M.at_, 0⟩], fin := 2 }) (PE.out) (Hw64.out) (bE) (Nat.le_succ_of_le hgb) hWg X.out rfl
              have HE := Lib.hid hE
              clear hE
              exact bodyPost_ret (results_blk (HE.out.1) rfl _ rfl Try.underlying36 rfl (by kernel_rfl)) rfl ⟨_, rfl, by rw [Hlast.out]; exact HE.out.2⟩
            · by_cases hx0 : x < 0
              · exfalso; omega
              · have hx0' : decide (x < 0) = false := by simpa using hx0
                have hxL : decide ((L : Int) ≤ x) = true := by simpa using hin'
                clear hx0
                go_wp2
                have hE := play_end (M := { M with at_ := M.at_ + 1, steps := M.steps + 1, seen := M.seen ++ [⟨1, M.at_, 0⟩], fin := 2 }) (PE.out) (Hw64.out) (bE) (Nat.le_succ_of_le hgb) hWg X.out rfl
                have HE := Lib.hid hE
                clear hE
                exact bodyPost_ret (results_blk (HE.out.1) rfl _ rfl Try.underlying36 rfl (by kernel_rfl)) rfl ⟨_, rfl, by rw [Hlast.out]; exact HE.out.2⟩
          · have hs' := step_take (M := M) hw hin
            simp only at hs'
            have hin' : 0 ≤ idxOf M.regs ⟨op, a, b, c, n⟩ ∧ idxOf M.regs ⟨op, a, b, c, n⟩ < (wordsOf (p.regs.getD c.toNat default) : Int) := by
              have hin2 := hin
              unfold insideB regOf at hin2
              simp only at hin2
              rw [Bool.and_eq_true] at hin2
              simp only [decide_eq_true_eq] at hin2
              exact hin2
            clear hin
            generalize idxOf M.regs ⟨op, a, b, c, n⟩ = x at *
            have Hs : Hid (stepM p ⟨op, a, b, c, n⟩ M = { M with at_ := M.at_ + 1, steps := M.steps + 1, seen := M.seen ++ [⟨1, M.at_, 0⟩] ++ [⟨2, ((baseOf p c.toNat + x.toNat : Nat) : Int), 0⟩], regs := rset M.regs a (M.words.getD (baseOf p c.toNat + x.toNat) 0) }) := Lib.hid hs'
            obtain ⟨hx0, hx1⟩ := hin'
            have hxl : x.toNat < ((splitW p M.words).getD c.toNat default).length := by rw [Hrow2.out]; omega
            obtain ⟨cx, fx⟩ := HkxA.out x.toNat hxl
            have hsp := split_at M.words Hcr.out (show x.toNat < wordsOf (p.regs.getD c.toNat default) by omega)
            rw [hsp] at cx
            have hsp := Lib.hid hsp
            have Hset : Hid (∀ z, (splitW p M.words).set c.toNat (((splitW p M.words).getD c.toNat default).set x.toNat z) = splitW p (M.words.set (baseOf p c.toNat + x.toNat) z)) := Lib.hid fun z => (split_set M.words Hcr.out (show x.toNat < wordsOf (p.regs.getD c.toNat default) by omega) z).symm
            have Hxl := Lib.hid hxl
            have HkoC : Hid (w5.cell? ⟨ko, c.toNat, none⟩ = some (.slice (some ⟨kk, 0, none⟩) ((splitW p M.words).getD c.toNat default).length capk)) := Lib.hid (by rw [Hrow2.out]; exact hko)
            have C := rBase_c p c _ w5 (HP.out.ext (X.out.trans PP.out.bel)) Hr.out hc0' Hcr.out
            have C := Lib.hid C
            have bP := BP0.out.ext PP.out.bel
            have pb0 : w5.cell? ⟨gb, 0, none⟩ = some (.slice o1 p.regs.length s1) := by rw [bP.cell]; rfl
            have pb1 : w5.cell? ⟨gb, 1, none⟩ = some (.slice o2 p.code.length s2) := by rw [bP.cell]; rfl
            have hx0' : decide (x < 0) = false := decide_eq_false (by omega)
            have hx1' : decide ((wordsOf (p.regs.getD c.toNat default) : Int) ≤ x) = false := decide_eq_false (by omega)
            generalize wordsOf (p.regs.getD c.toNat default) = L at *
            clear hs' hxl HkxA
            go_wp2_with fail
            (with_reducible refine C.out.mono ?_)
            clear C
            rintro e w6 ⟨rfl, hx⟩
            have PP := Lib.hid (PP.out.ext hx)
            have i1 := hx.kept i1
            have i3 := hx.kept i3
            have g3 := kept2 hx g3
            have g4 := kept2 hx g4
            have hko := hx.kept hko
            have HkoC := Lib.hid (hx.kept HkoC.out)
            have fx := (hx.frozen (block_lt cx)).trans fx
            have cx := hx.kept cx
            have HbI := Lib.hid (HbI.out.ext hx)
            clear hx pb0 pb1 bP g0 i0 i2 i4
            have hgl6 := PP.out.box.lt
            have hgl7 := PP.out.rg.lt
            have hibl := block_lt i1
            simp only at hibl
            have hkol := block_lt hko
            simp only at hkol
            have hkkl := block_lt cx
            simp only at hkkl
            have hbb : (baseOf p c.toNat : Int) ≤ 384 := by omega
            have hcast : ((baseOf p c.toNat + x.toNat : Nat) : Int) = (baseOf p c.toNat : Int) + x := by omega
            have Hcast := Lib.hid hcast
            clear hcast
            go_wp2_with (at_builtin; refine wpList_append_src _ rfl _ _ 34 rfl gs 98 i0' _ 3 24 Try.underlying34 hi0' hz0' hz1' hz2' rfl (by decide) _ _ _ rfl (own_alloc PP.out.sn) (some ⟨w6.heap.size, 0, none⟩) 1 1 (seeCells ⟨2, (baseOf p c.toNat : Int) + x, 0⟩) rfl ?t1 ?t3 ?t4 ?t5 ?_)
            case t1 => exact src_new (size := 3) (Blk.new w6 98 #[.int .i64 2, .int .i64 ((baseOf p c.toNat : Int) + x), .int .i64 0]) rfl (by simp [Value.oneCell'])
            case t3 => unfold maxLen; simp; omega
            case t4 => simp; omega
            case t5 => simp; omega
            intro vS7 w7 hown hgrow hat7
            clear hat7
            obtain ⟨oz, ozc, rfl⟩ := own_slice hown
            have P1 := PP.out.ext ((Ext.refl _).alloc (.cells #[.int .i64 2, .int .i64 ((baseOf p c.toNat : Int) + x), .int .i64 0] 98))
            have bS7 := P1.show1 (vS' := .slice oz (M.seen.length + 1 + 1) ozc) hgrow
            have P2 := P1.show2 (seen' := M.seen ++ [⟨1, M.at_, 0⟩] ++ [⟨2, ((baseOf p c.toNat + x.toNat : Nat) : Int), 0⟩]) (vS' := .slice oz (M.seen.length + 1 + 1) ozc) hgrow (by rw [Hcast.out]; simpa using hown)
            have hgx : w6.grownBy w7 (Value.slice ow (M.seen.length + 1) owc).ownBlock := grown_trans (ext_grown ((Ext.refl _).alloc _) _) hgrow
            have PP := Lib.hid P2
            have bI6 := HbI.out.alloc (.cells #[.int .i64 2, .int .i64 ((baseOf p c.toNat : Int) + x), .int .i64 0] 98)
            have bI7 := (bI6.grown hgrow (own_ne P1.sn bI6 (by decide))).far (p := ⟨gs, 3, none⟩) hIg (.slice oz (M.seen.length + 1 + 1) ozc)
            have p3 : w7.cell? ⟨gs, 3, none⟩ = some (.slice ow (M.seen.length + 1) owc) ∧ w7.frozen? ⟨gs, 3, none⟩ = false := ⟨by rw [bS7.cell]; rfl, bS7.frozen 3⟩
            clear g3 g4 i1 i3 cx fx hko HkoC bS7 P1 P2 hown hgx hgrow bI6
            obtain ⟨ko2, capo2, kk2, capk2, hvM2, hBko2, hBkk2, hkkU2, hko2, hkx2⟩ := PP.out.mm.at_ (c := c.toNat) Hcm.out (by rw [Hrow2.out]; omega)
            simp only [Value.slice.injEq, Option.some.injEq, Addr.mk.injEq, and_true, true_and, eq_self_iff_true] at hvM2
            obtain ⟨rfl, rfl⟩ := hvM2
            obtain ⟨cx, fx⟩ := hkx2 x.toNat Hxl.out
            rw [hsp.out] at cx
            have HkoC := Lib.hid hko2
            rw [Hrow2.out] at hko2
            clear hkx2
            obtain ⟨-, -, -, -, ⟨g4, -⟩⟩ := PP.out.cells
            obtain ⟨ra, fa⟩ := reg_cell PP.out.rg Hgo.out.ok.len ha
            have i1 : (w7.setCell ⟨gs, 3, none⟩ (.slice oz (M.seen.length + 1 + 1) ozc)).cell? ⟨ib, 1, none⟩ = some (.int .i64 a) := by rw [bI7.cell]; rfl
            have i3 : (w7.setCell ⟨gs, 3, none⟩ (.slice oz (M.seen.length + 1 + 1) ozc)).cell? ⟨ib, 3, none⟩ = some (.int .i64 c) := by rw [bI7.cell]; rfl
            clear bI7
            generalize M.words.getD (baseOf p c.toNat + x.toNat) 0 = z at *
            have k1 : ∀ W, Ext (w7.setCell ⟨gs, 3, none⟩ (.slice oz (M.seen.length + 1 + 1) ozc)) W → W.cell? ⟨ib, 1, none⟩ = some (.int .i64 a) := fun _ h => h.kept i1
            have k3 : ∀ W, Ext (w7.setCell ⟨gs, 3, none⟩ (.slice oz (M.seen.length + 1 + 1) ozc)) W → W.cell? ⟨ib, 3, none⟩ = some (.int .i64 c) := fun _ h => h.kept i3
            have k4 : ∀ W, Ext (w7.setCell ⟨gs, 3, none⟩ (.slice oz (M.seen.length + 1 + 1) ozc)) W → W.cell? ⟨gs, 4, none⟩ = some (.slice (some ⟨ko, 0, none⟩) (splitW p M.words).length omc) := fun _ h => h.kept g4
            have mo : ∀ W, Ext (w7.setCell ⟨gs, 3, none⟩ (.slice oz (M.seen.length + 1 + 1) ozc)) W → W.cell? ⟨ko, c.toNat, none⟩ = some (.slice (some ⟨kk2, 0, none⟩) L capk2) := fun _ h => h.kept hko2
            have mx : ∀ W, Ext (w7.setCell ⟨gs, 3, none⟩ (.slice oz (M.seen.length + 1 + 1) ozc)) W → W.cell? ⟨kk2, x.toNat, none⟩ = some (.int .i64 z) := fun _ h => h.kept cx
            have rr : (w7.setCell ⟨gs, 3, none⟩ (.slice oz (M.seen.length + 1 + 1) ozc)).cell? ⟨gs + 1, a.toNat, none⟩ = some (.int .i64 (rg M.regs a)) ∧ (w7.setCell ⟨gs, 3, none⟩ (.slice oz (M.seen.length + 1 + 1) ozc)).frozen? ⟨gs + 1, a.toNat, none⟩ = false := ⟨ra, fa⟩
            clear i1 i3 g4 hko2 cx fx ra fa
            go_upto_region 34 with fail
            refine region_calm 13 (by kernel_rfl) (by kernel_rfl) ?_
            simp only [List.take_succ_cons, List.take_zero, List.drop_succ_cons, List.drop_zero]
            repeat (first | (refine calm_fresh ?_ ?_ (fun wc hE => ?_) ?_; (decide); rfl; (focus (go_simp; done)); go_simp) | (refine calm_value ?_ ?_ ?_; (decide); (first | rfl | (focus (go_simp; done))); apply Exists.intro; refine ⟨fun wc hE => ?_, ?_⟩; (go_simp; exact rfl); go_simp) | (refine calm_call ?_ ?_ ?_; (decide); (first | rfl | (focus (go_simp; done))); apply Exists.intro; refine ⟨fun wc hE => ?_, ?_⟩; (go_simp; (first | fail)); go_simp) | (refine calm_skip ?_ ?_ ?_; (decide); (focus (go_simp; done)); go_simp))
            refine calm_nil ?_
            intro wx hx
            have PP := Lib.hid (PP.out.ext hx)
            have rr := kept2 hx rr
            have HkoC := Lib.hid (hx.kept HkoC.out)
            clear hx k1 k3 k4 mo mx
            go_wp2
            go_roundw
            case rel => exact ⟨stepM p ⟨op, a, b, c, n⟩ M, _, _, by rw [Hs.out]; go_num, by rw [Hs.out]; first | exact Hfin.out | rfl, hN.out.2.1, hN.out.1, hN.out.2.2, by rw [Hs.out]; exact PP.out.reg1 a z⟩
            case measure =>
              have e1 := Hmeas.out
              have e2 := stepsAt_of (PP.out.reg1 a z)
              rw [e1, e2]; omega
        by_cases hw : op = 4 ∨ op = 6
        · have hpv : putV op = 1 := by unfold putV; rw [if_neg (by omega), if_pos hw]
          have hw' : op = 3 ∨ op = 4 ∨ op = 5 ∨ op = 6 := by omega
          have Hw' := Lib.hid hw'
          obtain ⟨ha, hb, hc0', hc1'⟩ := word_parts Hok.out hw'
          simp only at ha hb hc0' hc1'
          obtain ⟨a0, a1⟩ := okIn_iff.1 ha
          have hb7 : (op == (7 : Int)) = false := by simp; omega
          have hb8 : (op == (8 : Int)) = false := by simp; omega
          have hb9 : (op == (9 : Int)) = false := by simp; omega
          have Hcr := Lib.hid hc1'
          have hrow := split_row Hgo.out.ok.wlen hc1'
          have hcm : c.toNat < (splitW p M.words).length := by rw [split_len]; exact hc1'
          obtain ⟨ko, capo, kk, capk, hvM, hBko, hBkk, hkkU, hko, hkx⟩ := PP.out.mm.at_ hcm (by rw [hrow]; exact words_pos _)
          simp only [Value.slice.injEq] at hvM
          obtain ⟨rfl, -, rfl⟩ := hvM
          obtain ⟨hr, -, -, -⟩ := hard_parts Hh.out
          have hw64 : wordsOf (p.regs.getD c.toNat default) ≤ 64 := words_le _ (regsOk_log hr _ (getD_mem hc1')).2
          have hbt := base_end p c.toNat hc1'
          have htt := total_le hr
          have Hr := Lib.hid hr
          have HkxA := Lib.hid hkx
          have Hrow2 := Lib.hid hrow
          rw [hrow] at hko
          have hml : (splitW p M.words).length = p.regs.length := split_len p _
          have hp6 := regsOk_len hr
          have C := rIndex_c (gs + 1) M.regs 2 ⟨op, a, b, c, n⟩ Hgo.out.ok.len hb w4 PP.out.rg
          simp only [insV] at C
          have C := Lib.hid C
          have hci : c < ((splitW p M.words).length : Int) := by rw [hml]; omega
          clear hr hrow hcm hkx hw' hml
          go_wp2_with fail
          (with_reducible refine C.out.mono ?_)
          clear C
          rintro e w5 ⟨rfl, hx⟩
          have PP := Lib.hid (PP.out.ext hx)
          have i0 := hx.kept i0
          have i1 := hx.kept i1
          have i2 := hx.kept i2
          have i3 := hx.kept i3
          have i4 := hx.kept i4
          have g0 := kept2 hx g0
          have g3 := kept2 hx g3
          have g4 := kept2 hx g4
          have hko := hx.kept hko
          have HkxA : Hid (∀ x, x < ((splitW p M.words).getD c.toNat default).length → w5.cell? ⟨kk, x, none⟩ = some (.int .i64 (((splitW p M.words).getD c.toNat default).getD x 0)) ∧ w5.frozen? ⟨kk, x, none⟩ = false) := Lib.hid fun x h => kept2 hx (HkxA.out x h)
          have HbI := Lib.hid (bI.ext hx)
          have Hcm := Lib.hid (show c.toNat < (splitW p M.words).length by rw [split_len]; exact Hcr.out)
          clear hx g1 g2 bI
          have hixm := index_mem' (oa := some ⟨ko, 0, none⟩) (n := (splitW p M.words).length) (b := ko) (o := 0) (cap := omc) (fun _ => rfl)
          have hixr := index_row
          have hkk1 : kk < gs := hkkU
          cases hin : insideB p ⟨op, a, b, c, n⟩ (idxOf M.regs ⟨op, a, b, c, n⟩)
          · have Hs := Lib.hid (step_fault (M := M) Hw'.out hin)
            have Hlast : Hid (F = { M with at_ := M.at_ + 1, steps := M.steps + 1, seen := M.seen ++ [⟨1, M.at_, 0⟩], fin := 2 }) := Lib.hid ((hL.out (by rw [Hs.out]; simp)).trans Hs.out)
            have bR := BR0.out.ext PP.out.bel
            have q0 : w5.cell? ⟨gb + 1, 0, none⟩ = some (.int .i64 0) ∧ w5.frozen? ⟨gb + 1, 0, none⟩ = false := ⟨by rw [bR.cell]; rfl, bR.frozen _⟩
            have q1 : w5.cell? ⟨gb + 1, 1, none⟩ = some (.int .i64 0) ∧ w5.frozen? ⟨gb + 1, 1, none⟩ = false := ⟨by rw [bR.cell]; rfl, bR.frozen _⟩
            have q2 : w5.cell? ⟨gb + 1, 2, none⟩ = some (.int .i64 0) ∧ w5.frozen? ⟨gb + 1, 2, none⟩ = false := ⟨by rw [bR.cell]; rfl, bR.frozen _⟩
            have q3 : w5.cell? ⟨gb + 1, 3, none⟩ = some (.slice none 0 0) ∧ w5.frozen? ⟨gb + 1, 3, none⟩ = false := ⟨by rw [bR.cell]; rfl, bR.frozen _⟩
            have q4 : w5.cell? ⟨gb + 1, 4, none⟩ = some (.slice none 0 0) ∧ w5.frozen? ⟨gb + 1, 4, none⟩ = false := ⟨by rw [bR.cell]; rfl, bR.frozen _⟩
            have hgg1 : gb + 1 ≠ gs := by have := PP.out.bu; omega
            have hgg2 : gs ≠ gb + 1 := by omega
            have PE := Lib.hid (PP.out.field 0 (.int .i64 2) (fin' := 2) (value' := M.value) (steps' := M.steps + 1) rfl)
            have bE := bR.far (p := ⟨gs, 0, none⟩) hgg1 (.int .i64 2)
            have Hw64 := Lib.hid Hgo.out.ok.w64
            have hin' : idxOf M.regs ⟨op, a, b, c, n⟩ < 0 ∨ (wordsOf (p.regs.getD c.toNat default) : Int) ≤ idxOf M.regs ⟨op, a, b, c, n⟩ := by
              have hin2 := hin
              unfold insideB regOf at hin2
              simp only at hin2
              rw [Bool.and_eq_false_iff] at hin2
              simp only [decide_eq_false_iff_not] at hin2
              omega
            clear hin
            generalize idxOf M.regs ⟨op, a, b, c, n⟩ = x at *
            generalize wordsOf (p.regs.getD c.toNat default) = L at *
            obtain ⟨g0', g1', g2', g3', g4'⟩ := PP.out.cells
            clear g0 g3 g4
            rcases hin' with hin' | hin'
            · go_wp2
              have hE := play_end (M := { M with at_ := M.at_ + 1, steps := M.steps + 1, seen := M.seen ++ [⟨1, M.at_, 0⟩], fin := 2 }) (PE.out) (Hw64.out) (bE) (Nat.le_succ_of_le hgb) hWg X.out rfl
              have HE := Lib.hid hE
              clear hE
              exact bodyPost_ret (results_blk (HE.out.1) rfl _ rfl Try.underlying36 rfl (by kernel_rfl)) rfl ⟨_, rfl, by rw [Hlast.out]; exact HE.out.2⟩
            · by_cases hx0 : x < 0
              · exfalso; omega
              · have hx0' : decide (x < 0) = false := by simpa using hx0
                have hxL : decide ((L : Int) ≤ x) = true := by simpa using hin'
                clear hx0
                go_wp2
                have hE := play_end (M := { M with at_ := M.at_ + 1, steps := M.steps + 1, seen := M.seen ++ [⟨1, M.at_, 0⟩], fin := 2 }) (PE.out) (Hw64.out) (bE) (Nat.le_succ_of_le hgb) hWg X.out rfl
                have HE := Lib.hid hE
                clear hE
                exact bodyPost_ret (results_blk (HE.out.1) rfl _ rfl Try.underlying36 rfl (by kernel_rfl)) rfl ⟨_, rfl, by rw [Hlast.out]; exact HE.out.2⟩
          · have hs' := step_put (M := M) hw hin
            simp only at hs'
            have hin' : 0 ≤ idxOf M.regs ⟨op, a, b, c, n⟩ ∧ idxOf M.regs ⟨op, a, b, c, n⟩ < (wordsOf (p.regs.getD c.toNat default) : Int) := by
              have hin2 := hin
              unfold insideB regOf at hin2
              simp only at hin2
              rw [Bool.and_eq_true] at hin2
              simp only [decide_eq_true_eq] at hin2
              exact hin2
            clear hin
            generalize idxOf M.regs ⟨op, a, b, c, n⟩ = x at *
            have Hs : Hid (stepM p ⟨op, a, b, c, n⟩ M = { M with at_ := M.at_ + 1, steps := M.steps + 1, seen := M.seen ++ [⟨1, M.at_, 0⟩] ++ [⟨2, ((baseOf p c.toNat + x.toNat : Nat) : Int), 1⟩], words := M.words.set (baseOf p c.toNat + x.toNat) (rg M.regs a) }) := Lib.hid hs'
            obtain ⟨hx0, hx1⟩ := hin'
            have hxl : x.toNat < ((splitW p M.words).getD c.toNat default).length := by rw [Hrow2.out]; omega
            obtain ⟨cx, fx⟩ := HkxA.out x.toNat hxl
            have hsp := split_at M.words Hcr.out (show x.toNat < wordsOf (p.regs.getD c.toNat default) by omega)
            rw [hsp] at cx
            have hsp := Lib.hid hsp
            have Hset : Hid (∀ z, (splitW p M.words).set c.toNat (((splitW p M.words).getD c.toNat default).set x.toNat z) = splitW p (M.words.set (baseOf p c.toNat + x.toNat) z)) := Lib.hid fun z => (split_set M.words Hcr.out (show x.toNat < wordsOf (p.regs.getD c.toNat default) by omega) z).symm
            have Hxl := Lib.hid hxl
            have HkoC : Hid (w5.cell? ⟨ko, c.toNat, none⟩ = some (.slice (some ⟨kk, 0, none⟩) ((splitW p M.words).getD c.toNat default).length capk)) := Lib.hid (by rw [Hrow2.out]; exact hko)
            have C := rBase_c p c _ w5 (HP.out.ext (X.out.trans PP.out.bel)) Hr.out hc0' Hcr.out
            have C := Lib.hid C
            have bP := BP0.out.ext PP.out.bel
            have pb0 : w5.cell? ⟨gb, 0, none⟩ = some (.slice o1 p.regs.length s1) := by rw [bP.cell]; rfl
            have pb1 : w5.cell? ⟨gb, 1, none⟩ = some (.slice o2 p.code.length s2) := by rw [bP.cell]; rfl
            have hx0' : decide (x < 0) = false := decide_eq_false (by omega)
            have hx1' : decide ((wordsOf (p.regs.getD c.toNat default) : Int) ≤ x) = false := decide_eq_false (by omega)
            generalize wordsOf (p.regs.getD c.toNat default) = L at *
            clear hs' hxl HkxA
            go_wp2_with fail
            (with_reducible refine C.out.mono ?_)
            clear C
            rintro e w6 ⟨rfl, hx⟩
            have PP := Lib.hid (PP.out.ext hx)
            have i1 := hx.kept i1
            have i3 := hx.kept i3
            have g3 := kept2 hx g3
            have g4 := kept2 hx g4
            have hko := hx.kept hko
            have HkoC := Lib.hid (hx.kept HkoC.out)
            have fx := (hx.frozen (block_lt cx)).trans fx
            have cx := hx.kept cx
            have HbI := Lib.hid (HbI.out.ext hx)
            clear hx pb0 pb1 bP g0 i0 i2 i4
            have hgl6 := PP.out.box.lt
            have hgl7 := PP.out.rg.lt
            have hibl := block_lt i1
            simp only at hibl
            have hkol := block_lt hko
            simp only at hkol
            have hkkl := block_lt cx
            simp only at hkkl
            have hbb : (baseOf p c.toNat : Int) ≤ 384 := by omega
            have hcast : ((baseOf p c.toNat + x.toNat : Nat) : Int) = (baseOf p c.toNat : Int) + x := by omega
            have Hcast := Lib.hid hcast
            clear hcast
            go_wp2_with (at_builtin; refine wpList_append_src _ rfl _ _ 34 rfl gs 98 i0' _ 3 24 Try.underlying34 hi0' hz0' hz1' hz2' rfl (by decide) _ _ _ rfl (own_alloc PP.out.sn) (some ⟨w6.heap.size, 0, none⟩) 1 1 (seeCells ⟨2, (baseOf p c.toNat : Int) + x, 1⟩) rfl ?p1 ?p3 ?p4 ?p5 ?_)
            case p1 => exact src_new (size := 3) (Blk.new w6 98 #[.int .i64 2, .int .i64 ((baseOf p c.toNat : Int) + x), .int .i64 1]) rfl (by simp [Value.oneCell'])
            case p3 => unfold maxLen; simp; omega
            case p4 => simp; omega
            case p5 => simp; omega
            intro vS7 w7 hown hgrow hat7
            clear hat7
            obtain ⟨oz, ozc, rfl⟩ := own_slice hown
            have P1 := PP.out.ext ((Ext.refl _).alloc (.cells #[.int .i64 2, .int .i64 ((baseOf p c.toNat : Int) + x), .int .i64 1] 98))
            have bS7 := P1.show1 (vS' := .slice oz (M.seen.length + 1 + 1) ozc) hgrow
            have P2 := P1.show2 (seen' := M.seen ++ [⟨1, M.at_, 0⟩] ++ [⟨2, ((baseOf p c.toNat + x.toNat : Nat) : Int), 1⟩]) (vS' := .slice oz (M.seen.length + 1 + 1) ozc) hgrow (by rw [Hcast.out]; simpa using hown)
            have hgx : w6.grownBy w7 (Value.slice ow (M.seen.length + 1) owc).ownBlock := grown_trans (ext_grown ((Ext.refl _).alloc _) _) hgrow
            have PP := Lib.hid P2
            have bI6 := HbI.out.alloc (.cells #[.int .i64 2, .int .i64 ((baseOf p c.toNat : Int) + x), .int .i64 1] 98)
            have bI7 := (bI6.grown hgrow (own_ne P1.sn bI6 (by decide))).far (p := ⟨gs, 3, none⟩) hIg (.slice oz (M.seen.length + 1 + 1) ozc)
            have p3 : w7.cell? ⟨gs, 3, none⟩ = some (.slice ow (M.seen.length + 1) owc) ∧ w7.frozen? ⟨gs, 3, none⟩ = false := ⟨by rw [bS7.cell]; rfl, bS7.frozen 3⟩
            clear g3 g4 i1 i3 cx fx hko HkoC bS7 P1 P2 hown hgx hgrow bI6
            obtain ⟨ko2, capo2, kk2, capk2, hvM2, hBko2, hBkk2, hkkU2, hko2, hkx2⟩ := PP.out.mm.at_ (c := c.toNat) Hcm.out (by rw [Hrow2.out]; omega)
            simp only [Value.slice.injEq, Option.some.injEq, Addr.mk.injEq, and_true, true_and, eq_self_iff_true] at hvM2
            obtain ⟨rfl, rfl⟩ := hvM2
            obtain ⟨cx, fx⟩ := hkx2 x.toNat Hxl.out
            rw [hsp.out] at cx
            have HkoC := Lib.hid hko2
            rw [Hrow2.out] at hko2
            clear hkx2
            obtain ⟨-, -, -, -, ⟨g4, -⟩⟩ := PP.out.cells
            obtain ⟨ra, fa⟩ := reg_cell PP.out.rg Hgo.out.ok.len ha
            have i1 : (w7.setCell ⟨gs, 3, none⟩ (.slice oz (M.seen.length + 1 + 1) ozc)).cell? ⟨ib, 1, none⟩ = some (.int .i64 a) := by rw [bI7.cell]; rfl
            have i3 : (w7.setCell ⟨gs, 3, none⟩ (.slice oz (M.seen.length + 1 + 1) ozc)).cell? ⟨ib, 3, none⟩ = some (.int .i64 c) := by rw [bI7.cell]; rfl
            clear bI7
            generalize M.words.getD (baseOf p c.toNat + x.toNat) 0 = z at *
            have k1 : ∀ W, Ext (w7.setCell ⟨gs, 3, none⟩ (.slice oz (M.seen.length + 1 + 1) ozc)) W → W.cell? ⟨ib, 1, none⟩ = some (.int .i64 a) := fun _ h => h.kept i1
            have k3 : ∀ W, Ext (w7.setCell ⟨gs, 3, none⟩ (.slice oz (M.seen.length + 1 + 1) ozc)) W → W.cell? ⟨ib, 3, none⟩ = some (.int .i64 c) := fun _ h => h.kept i3
            have k4 : ∀ W, Ext (w7.setCell ⟨gs, 3, none⟩ (.slice oz (M.seen.length + 1 + 1) ozc)) W → W.cell? ⟨gs, 4, none⟩ = some (.slice (some ⟨ko, 0, none⟩) (splitW p M.words).length omc) := fun _ h => h.kept g4
            have mo : ∀ W, Ext (w7.setCell ⟨gs, 3, none⟩ (.slice oz (M.seen.length + 1 + 1) ozc)) W → W.cell? ⟨ko, c.toNat, none⟩ = some (.slice (some ⟨kk2, 0, none⟩) L capk2) := fun _ h => h.kept hko2
            have mx : ∀ W, Ext (w7.setCell ⟨gs, 3, none⟩ (.slice oz (M.seen.length + 1 + 1) ozc)) W → W.cell? ⟨gs + 1, a.toNat, none⟩ = some (.int .i64 (rg M.regs a)) := fun _ h => h.kept ra
            have rr : (w7.setCell ⟨gs, 3, none⟩ (.slice oz (M.seen.length + 1 + 1) ozc)).cell? ⟨kk2, x.toNat, none⟩ = some (.int .i64 z) ∧ (w7.setCell ⟨gs, 3, none⟩ (.slice oz (M.seen.length + 1 + 1) ozc)).frozen? ⟨kk2, x.toNat, none⟩ = false := ⟨cx, fx⟩
            clear i1 i3 g4 hko2 cx fx ra fa
            go_upto_region 33 with fail
            refine region_calm 13 (by kernel_rfl) (by kernel_rfl) ?_
            simp only [List.take_succ_cons, List.take_zero, List.drop_succ_cons, List.drop_zero]
            repeat (first | (refine calm_fresh ?_ ?_ (fun wc hE => ?_) ?_; (decide); rfl; (focus (go_simp; done)); go_simp) | (refine calm_value ?_ ?_ ?_; (decide); (first | rfl | (focus (go_simp; done))); apply Exists.intro; refine ⟨fun wc hE => ?_, ?_⟩; (go_simp; exact rfl); go_simp) | (refine calm_call ?_ ?_ ?_; (decide); (first | rfl | (focus (go_simp; done))); apply Exists.intro; refine ⟨fun wc hE => ?_, ?_⟩; (go_simp; (first | fail)); go_simp) | (refine calm_skip ?_ ?_ ?_; (decide); (focus (go_simp; done)); go_simp))
            refine calm_nil ?_
            intro wx hx
            have PP := Lib.hid (PP.out.ext hx)
            have rr := kept2 hx rr
            have HkoC := Lib.hid (hx.kept HkoC.out)
            clear hx k1 k3 k4 mo mx
            have HPw := Lib.hid (PP.out.word Hcm.out Hxl.out rfl HkoC.out hBkk2 hkkU2 (rg M.regs a))
            rw [Hset.out] at HPw
            go_wp2
            go_roundw
            case rel => exact ⟨stepM p ⟨op, a, b, c, n⟩ M, _, _, by rw [Hs.out]; go_num, by rw [Hs.out]; first | exact Hfin.out | rfl, hN.out.2.1, hN.out.1, hN.out.2.2, by rw [Hs.out]; exact HPw.out⟩
            case measure =>
              have e1 := Hmeas.out
              have e2 := stepsAt_of (HPw.out)
              rw [e1, e2]; omega
        have hplain : op ≠ 3 ∧ op ≠ 4 ∧ op ≠ 5 ∧ op ≠ 6 ∧ op ≠ 7 ∧ op ≠ 8 ∧ op ≠ 9 := ⟨by omega, by omega, by omega, by omega, h7, h8, h9⟩
        have hpv : putV op = -1 := by unfold putV; rw [if_neg (by omega), if_neg (by omega)]
        have hb7 : (op == (7 : Int)) = false := by simp; omega
        have hb8 : (op == (8 : Int)) = false := by simp; omega
        have hb9 : (op == (9 : Int)) = false := by simp; omega
        have Hs := Lib.hid (step_plain (p := p) (M := M) (i := ⟨op, a, b, c, n⟩) hplain)
        have hp1 : (plainS M.regs ⟨op, a, b, c, n⟩).length ≤ 1 := by unfold plainS; split <;> simp
        have C := rRegs_c (gs + 1) 2 M.regs p ⟨op, a, b, c, n⟩ Hgo.out.ok.len Hgo.out.ok.r64 Hok.out hplain w4 PP.out.rg
        unfold RegsPost at C
        simp only [insV] at C
        generalize plainS M.regs ⟨op, a, b, c, n⟩ = ps at *
        generalize plainR M.regs ⟨op, a, b, c, n⟩ = pr at *
        have C := Lib.hid C
        clear h7 h8 h9 hplain g0 g1 g2 g4
        go_wp2_with fail
        (with_reducible refine C.out.mono ?_)
        clear C
        rintro e w5 ⟨ao, acap, rfl, hsrc, hgr, hbk⟩
        have PP := Lib.hid (PP.out.regs_ hgr hbk)
        obtain ⟨-, -, -, g3, -⟩ := PP.out.cells
        have Hsrc := Lib.hid hsrc
        clear hsrc hgr hbk i0 i1 i2 i3 i4 bI
        go_wp2_with (at_builtin; refine wpList_append_src _ rfl _ _ 34 rfl gs 98 i0' _ 3 24 Try.underlying34 hi0' hz0' hz1' hz2' rfl (by decide) _ _ _ rfl PP.out.sn ao ps.length acap (ps.flatMap seeCells) rfl ?e1 ?e3 ?e4 ?e5 ?_)
        case e1 => exact Hsrc.out
        case e3 => unfold maxLen; simp; omega
        case e4 => simp; omega
        case e5 => exact PP.out.size
        intro vS7 w7 hown hgrow hat7
        clear hat7
        obtain ⟨oz, ozc, rfl⟩ := own_slice hown
        have bS7 := PP.out.show1 (vS' := .slice oz (M.seen.length + 1 + ps.length) ozc) hgrow
        have P2 := PP.out.show2 (seen' := M.seen ++ [⟨1, M.at_, 0⟩] ++ ps) (vS' := .slice oz (M.seen.length + 1 + ps.length) ozc) hgrow (by simpa [Nat.add_assoc, Nat.add_comm ps.length 1] using hown)
        have p3 : w7.cell? ⟨gs, 3, none⟩ = some (.slice ow (M.seen.length + 1) owc) ∧ w7.frozen? ⟨gs, 3, none⟩ = false := ⟨by rw [bS7.cell]; rfl, bS7.frozen 3⟩
        have HPw := Lib.hid P2
        clear g3 bS7 P2 hown hgrow
        go_wp2
        go_roundw
        case rel => exact ⟨stepM p ⟨op, a, b, c, n⟩ M, _, _, by rw [Hs.out]; go_num, by rw [Hs.out]; first | exact Hfin.out | rfl, hN.out.2.1, hN.out.1, hN.out.2.2, by rw [Hs.out]; exact HPw.out⟩
        case measure =>
          have e1 := Hmeas.out
          have e2 := stepsAt_of (HPw.out)
          rw [e1, e2]; omega
      · have hate : decide ((p.code.length : Int) ≤ (M.at_ : Int)) = true := by simp; omega
        have Hlast : Hid (F = { M with fin := 2 }) := Lib.hid (by rw [← Hrun.out]; exact runM_stop (by omega) Hfin.out (by simp; omega))
        have bR := BR0.out.ext PP.out.bel
        have q0 : wr.cell? ⟨gb + 1, 0, none⟩ = some (.int .i64 0) ∧ wr.frozen? ⟨gb + 1, 0, none⟩ = false := ⟨by rw [bR.cell]; rfl, bR.frozen _⟩
        have q1 : wr.cell? ⟨gb + 1, 1, none⟩ = some (.int .i64 0) ∧ wr.frozen? ⟨gb + 1, 1, none⟩ = false := ⟨by rw [bR.cell]; rfl, bR.frozen _⟩
        have q2 : wr.cell? ⟨gb + 1, 2, none⟩ = some (.int .i64 0) ∧ wr.frozen? ⟨gb + 1, 2, none⟩ = false := ⟨by rw [bR.cell]; rfl, bR.frozen _⟩
        have q3 : wr.cell? ⟨gb + 1, 3, none⟩ = some (.slice none 0 0) ∧ wr.frozen? ⟨gb + 1, 3, none⟩ = false := ⟨by rw [bR.cell]; rfl, bR.frozen _⟩
        have q4 : wr.cell? ⟨gb + 1, 4, none⟩ = some (.slice none 0 0) ∧ wr.frozen? ⟨gb + 1, 4, none⟩ = false := ⟨by rw [bR.cell]; rfl, bR.frozen _⟩
        have hgg1 : gb + 1 ≠ gs := by have := PP.out.bu; omega
        have hgg2 : gs ≠ gb + 1 := by omega
        have PE := Lib.hid (PP.out.field 0 (.int .i64 2) (fin' := 2) (value' := M.value) (steps' := M.steps) rfl)
        have bE := bR.far (p := ⟨gs, 0, none⟩) hgg1 (.int .i64 2)
        have Hw64 := Lib.hid Hgo.out.ok.w64
        go_wp2
        have hE := play_end (M := { M with fin := 2 }) (PE.out) (Hw64.out) (bE) (Nat.le_succ_of_le hgb) hWg X.out rfl
        have HE := Lib.hid hE
        clear hE
        exact bodyPost_ret (results_blk (HE.out.1) rfl _ rfl Try.underlying36 rfl (by kernel_rfl)) rfl ⟨_, rfl, by rw [Hlast.out]; exact HE.out.2⟩
    · have hlt2 : decide ((M.steps : Int) < fuel) = false := by simpa using hlt
      have Hlast : Hid (F = M) := Lib.hid (by rw [← hrun, show fuel.toNat - M.steps = 0 by omega]; rfl)
      have PP := Lib.hid P
      obtain ⟨g0, g1, g2, g3, g4⟩ := P.cells
      have hgl := P.box.lt
      have hbl := bP.lt
      have Hw64 := Lib.hid hgo.ok.w64
      obtain ⟨ov, ovc, rfl⟩ := own_slice P.sn
      obtain ⟨om, omc, rfl⟩ : ∃ a c, vM = .slice a (splitW p M.words).length c := by
        obtain ⟨vs, h1, h2, -⟩ := P.mm
        exact own_slice h2
      clear P hlt hgo hrun hfin
      have bR := BR0.out.ext PP.out.bel
      have q0 : wr.cell? ⟨gb + 1, 0, none⟩ = some (.int .i64 0) ∧ wr.frozen? ⟨gb + 1, 0, none⟩ = false := ⟨by rw [bR.cell]; rfl, bR.frozen _⟩
      have q1 : wr.cell? ⟨gb + 1, 1, none⟩ = some (.int .i64 0) ∧ wr.frozen? ⟨gb + 1, 1, none⟩ = false := ⟨by rw [bR.cell]; rfl, bR.frozen _⟩
      have q2 : wr.cell? ⟨gb + 1, 2, none⟩ = some (.int .i64 0) ∧ wr.frozen? ⟨gb + 1, 2, none⟩ = false := ⟨by rw [bR.cell]; rfl, bR.frozen _⟩
      have q3 : wr.cell? ⟨gb + 1, 3, none⟩ = some (.slice none 0 0) ∧ wr.frozen? ⟨gb + 1, 3, none⟩ = false := ⟨by rw [bR.cell]; rfl, bR.frozen _⟩
      have q4 : wr.cell? ⟨gb + 1, 4, none⟩ = some (.slice none 0 0) ∧ wr.frozen? ⟨gb + 1, 4, none⟩ = false := ⟨by rw [bR.cell]; rfl, bR.frozen _⟩
      have hgg1 : gb + 1 ≠ gs := by have := PP.out.bu; omega
      have hgg2 : gs ≠ gb + 1 := by omega
      go_wp2
      have hE := play_end (M := M) (PP.out) (Hw64.out) (bR) (Nat.le_succ_of_le hgb) hWg X.out rfl
      have HE := Lib.hid hE
      clear hE
      exact bodyPost_ret (results_blk (HE.out.1) rfl _ rfl Try.underlying36 rfl (by kernel_rfl)) rfl ⟨_, rfl, by rw [Hlast.out]; exact HE.out.2⟩
end Go.Proofs.Yteiknefajlocoaa
/- Walks of Fits, of layout and of the reference. -/
namespace Go.Proofs.Yteiknefajlocoaa
open Go.ChangeShapes Go.WideShapes Go.ChangeAt Go.RowKit
set_option linter.unusedVariables false
set_option linter.unusedSimpArgs false

theorem index_mem {oa : Option Addr} {n b o cap : Nat} (h : 0 < n → oa = some ⟨b, o, none⟩) (W : World) (i : Int) (h0 : 0 ≤ i) (h1 : i < n) :
    (Instr.indexAt 31 (.slice oa n cap) (.int .i64 i)).run Try.prog W = .ok (.pointer (some ⟨b, o + i.toNat, none⟩)) W := by
  obtain rfl := h (by omega)
  have hs : (Try.prog.info? 71).map (·.size) = some 1 := by kernel_rfl
  simp [Instr.indexAt, run_underlying Try.underlying31, asIntOf, h0, h1]
  exact addr_add b o _
def fitOne (p : LProg) (m : List (List Int)) (i : Nat) : Bool := decide ((m.getD i default).length = wordsOf (p.regs.getD i default))
theorem take_range (f : Nat → Bool) (k n : Nat) (hk : k < n) (h : (List.range k).all f = true) : (List.range (k + 1)).all f = f k := by
  rw [List.range_succ, List.all_append, h]; simp
theorem range_false (f : Nat → Bool) (k n : Nat) (hk : k < n) (h : f k = false) : (List.range n).all f = false := by
  rw [List.all_eq_false]; exact ⟨k, List.mem_range.2 hk, by simp [h]⟩
theorem fits_eq (p : LProg) (m : List (List Int)) : fitsOk p m = (regsOk p.regs && decide (m.length = p.regs.length) && (List.range p.regs.length).all (fitOne p m)) := rfl
theorem logs_ok {l : List LReg} (h : regsOk l = true) : ∀ r ∈ l, 0 ≤ r.log ∧ r.log ≤ 6 := by
  intro r hr
  simp only [regsOk, Bool.and_eq_true, List.all_eq_true] at h
  have := h.1 r hr
  simpa [regOk] using this
theorem words64 {r : LReg} (h : r.log ≤ 6) : wordsOf r ≤ 64 := by
  unfold wordsOf
  exact Nat.le_trans (Nat.pow_le_pow_right (by omega) (show r.log.toNat ≤ 6 by omega)) (by decide)
set_option maxHeartbeats 4000000 in
theorem rFits_c (p : LProg) (v : Value) (m : List (List Int)) (vm : Value) (w : World) (hp : ProgAt w v p) (hm : MemAt w vm m) :
    Calls Try.prog 27 #[v, vm] w fun e w' => e = .returned (.bool (fitsOk p m)) ∧ Ext w w' := by
  have hp' := hp
  have hm' := hm
  obtain ⟨v1, v2, rfl, ⟨hb, oa, cap, b, o, rfl, hc1, hc2, hrow⟩, hcode⟩ := hp
  obtain ⟨om, capm, bm, um, rfl, hd1, hd2, vs, hrow2, hvs⟩ := hm
  have HP := Lib.hid hp'
  have hlen := len_bd hc1 hc2
  have hlen2 := len_bd hd1 hd2
  have hix := index_regs (cap := cap) hrow.at_
  have hixm := index_mem (cap := capm) hrow2.at_
  have Hrow := Lib.hid hrow
  have Hrow2 := Lib.hid hrow2
  have Hvs := Lib.hid hvs
  have Hgoal : ∀ r : Bool, Hid (r = fitsOk p m → Ending.returned (.bool r) = .returned (.bool (fitsOk p m))) := fun r => Lib.hid fun h => by rw [h]
  clear hrow hrow2 hc1 hc2 hd1 hd2 hp' hcode hvs hm'
  go_enter Try.func27, Try.ntmps27
  go_wp2_with fail
  obtain ⟨w0, g, hg, hW, hx, c0, c1⟩ := new2 w 25 (.slice oa p.regs.length cap) v2
  rw [hW, hg]
  have X := Lib.hid hx
  clear hW hg hx
  have C := rRegions_c p _ w0 (HP.out.ext X.out)
  cases hr : regsOk p.regs
  · rw [hr] at C
    have Hr := Lib.hid hr
    clear hr
    (with_reducible refine C.mono ?_)
    rintro e w1 ⟨rfl, h1⟩
    have X := Lib.hid (X.out.trans h1)
    clear h1 C
    go_wp2
    go_ret
    exact ⟨(Hgoal _).out (by simp [fits_eq, Hr.out]), X.out⟩
  rw [hr] at C
  have Hr := Lib.hid hr
  clear hr
  (with_reducible refine C.mono ?_)
  rintro e w1 ⟨rfl, h1⟩
  have X := Lib.hid (X.out.trans h1)
  have c0 := kept2 h1 c0
  have c1 := kept2 h1 c1
  clear h1 C
  by_cases q0 : m.length = p.regs.length
  rotate_left
  · have q0d : ((m.length : Int) != (p.regs.length : Int)) = true := by simp; omega
    have Q := Lib.hid q0
    clear q0
    go_wp2
    go_ret
    exact ⟨(Hgoal _).out (by simp [fits_eq, Q.out]), X.out⟩
  have q0d : ((m.length : Int) != (p.regs.length : Int)) = false := by simp; omega
  have Q := Lib.hid q0
  have hml : m.length ≤ p.regs.length ∧ p.regs.length ≤ m.length := by omega
  clear q0
  go_wp2_with fail
  go_loopw [5] (fun i wr => ∃ j : Nat, j ≤ p.regs.length ∧ i = .int .i64 j ∧ Ext w1 wr ∧ (List.range j).all (fitOne p m) = true) (fun i _ => p.regs.length - (intOf i).toNat)
  case atStart => exact ⟨0, by omega, rfl, Ext.refl _, by simp⟩
  case round =>
    obtain ⟨j, hj, rfl, hE, hall⟩ := hrel
    have c0 := kept2 hE c0
    have c1 := kept2 hE c1
    have X := Lib.hid (X.out.trans hE)
    have HE := Lib.hid hE
    have Hall := Lib.hid hall
    clear hE hall
    by_cases hlt : j < p.regs.length
    · obtain ⟨e0, e1⟩ := (Hrow.out.ext X.out).reg j hlt
      have hjm : j < m.length := by omega
      have f0 := (Hrow2.out.ext X.out).one j hjm
      obtain ⟨-, oj, capj, bj, uj, hvj, hj1, hj2, -⟩ := Hvs.out j hjm
      rw [hvj] at f0
      clear hvj
      have hlj := len_bd hj1 hj2
      have hlog := logs_ok Hr.out _ (getD_mem hlt)
      have Hs := Lib.hid (take_range (fitOne p m) j p.regs.length hlt Hall.out)
      have Hfalse := Lib.hid (range_false (fitOne p m) j p.regs.length hlt)
      have Hone : Hid (fitOne p m j = decide ((m.getD j default).length = wordsOf (p.regs.getD j default))) := Lib.hid rfl
      have Hw := Lib.hid (words64 hlog.2)
      generalize p.regs.getD j default = r at *
      generalize hmj : (m.getD j default).length = lm at *
      clear hmj hj1 hj2
      have hjm' : (j : Int) < (m.length : Int) := by omega
      have C := rWords_c r hlog.1 hlog.2 wr
      go_wp2_with fail
      (with_reducible refine C.mono ?_)
      clear C
      rintro e' w2 ⟨rfl, h2⟩
      have f0 := h2.kept f0
      have X := Lib.hid (X.out.trans h2)
      have HE := Lib.hid (HE.out.trans h2)
      clear h2 e0 e1
      by_cases hq : lm = wordsOf r
      · have hqd : ((lm : Int) != ((wordsOf r : Nat) : Int)) = false := by simp; omega
        have HQ := Lib.hid hq
        clear hq
        go_wp2
        go_roundw
        case rel => exact ⟨j + 1, by omega, by go_num, HE.out, by rw [Hs.out, Hone.out]; simp [HQ.out]⟩
        case measure => first | (simp [intOf]; done) | (simp [intOf]; omega)
      · have hqd : ((lm : Int) != ((wordsOf r : Nat) : Int)) = true := by simp; omega
        have HQ := Lib.hid hq
        clear hq
        go_wp2
        go_ret
        exact ⟨(Hgoal _).out (by rw [fits_eq, Hfalse.out (by rw [Hone.out]; simp [HQ.out]), Bool.and_false]), X.out⟩
    · have hje : j = p.regs.length := by omega
      subst hje
      have hjm : m.length ≤ p.regs.length := by omega
      go_wp2
      go_ret
      exact ⟨(Hgoal _).out (by simp [fits_eq, Hr.out, Q.out, Hall.out]), X.out⟩
end Go.Proofs.Yteiknefajlocoaa
