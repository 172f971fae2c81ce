/- Laid together from: Same8. -/
import Derived.Test.YtkkekbnhndfhjaaDoorTextParsesB20
import Derived.Test.YtkkekbnhndfhjaaDoorTextParsesB12
import Derived.Test.YtkkekbnhndfhjaaDoorTextParsesB13

namespace Go.Proofs.YtkkekbnhndfhjaaDoor
open Go.ChangeShapes Go.WideShapes Go.ChangeAt Go.RowKit
set_option linter.unusedVariables false
set_option linter.unusedSimpArgs false
theorem reg_ne (x : Int) (y : Bool) (w : World) : (binOp .neq 43 (.agg #[.int .i64 x, .bool y]) (.agg #[.int .i64 x, .bool y])).run Tryd.prog w = .ok (.bool false) w := by
  go_simp
theorem ins_ne (a b c d e : Int) (w : World) : (binOp .neq 46 (.agg #[.int .i64 a, .int .i64 b, .int .i64 c, .int .i64 d, .int .i64 e]) (.agg #[.int .i64 a, .int .i64 b, .int .i64 c, .int .i64 d, .int .i64 e])).run Tryd.prog w = .ok (.bool false) w := by
  go_simp
set_option maxHeartbeats 4000000 in
theorem rSame_c (p : LProg) (v u : Value) (w : World) (hv : ProgAt w v p) (hu : ProgAt w u p) :
    Calls Tryd.prog 12 #[v, u] w fun e w' => e = .returned (.bool true) ∧ Ext w w' := by
  obtain ⟨v1, v2, rfl, ⟨-, oa, capa, ba, ua, rfl, hc1, hc2, hr1⟩, ⟨-, ob, capb, bb, ub, rfl, hd1, hd2, hr2⟩⟩ := hv
  obtain ⟨u1, u2, rfl, ⟨-, oc, capc, bc, uc, rfl, hc3, hc4, hr3⟩, ⟨-, od, capd, bd, ud, rfl, hd3, hd4, hr4⟩⟩ := hu
  have hlen := len_bd hc1 hc2
  have hlen2 := len_bd hd1 hd2
  have hx1 := index_regs (cap := capa) hr1.at_
  have hx2 := index_code (cap := capb) hr2.at_
  have hx3 := index_regs (cap := capc) hr3.at_
  have hx4 := index_code (cap := capd) hr4.at_
  have H1 := Lib.hid hr1
  have H2 := Lib.hid hr2
  have H3 := Lib.hid hr3
  have H4 := Lib.hid hr4
  have hq1 : ((p.regs.length : Int) != (p.regs.length : Int)) = false := by simp
  have hq2 : ((p.code.length : Int) != (p.code.length : Int)) = false := by simp
  have rne := reg_ne
  have ine := ins_ne
  clear hr1 hr2 hr3 hr4 hc1 hc2 hc3 hc4 hd1 hd2 hd3 hd4
  go_enter Tryd.func12, Tryd.ntmps12
  go_upto_region 1 with fail
  obtain ⟨W, g, hg, hW, hx, bA, bB⟩ := blocks2 w #[.slice oa p.regs.length capa, .slice ob p.code.length capb] #[.slice oc p.regs.length capc, .slice od p.code.length capd] 25 25
  rw [hW, hg]
  have X := Lib.hid hx
  have a0 : W.cell? ⟨g, 0, none⟩ = some (.slice oa p.regs.length capa) := by rw [bA.cell]; rfl
  have a1 : W.cell? ⟨g, 1, none⟩ = some (.slice ob p.code.length capb) := by rw [bA.cell]; rfl
  have b0 : W.cell? ⟨g + 1, 0, none⟩ = some (.slice oc p.regs.length capc) := by rw [bB.cell]; rfl
  have b1 : W.cell? ⟨g + 1, 1, none⟩ = some (.slice od p.code.length capd) := by rw [bB.cell]; rfl
  clear hW hg hx bA bB
  go_wp2_with fail
  go_loopw [5] (fun i wr => ∃ j : Nat, j ≤ p.regs.length ∧ i = .int .i64 j ∧ Ext W wr) (fun i _ => p.regs.length - (intOf i).toNat)
  case atStart => exact ⟨0, by omega, rfl, Ext.refl _⟩
  case round =>
    obtain ⟨j, hj, rfl, hE⟩ := hrel
    have a0 := hE.kept a0
    have a1 := hE.kept a1
    have b0 := hE.kept b0
    have b1 := hE.kept b1
    have HE := Lib.hid hE
    have X := Lib.hid (X.out.trans hE)
    clear hE
    by_cases hlt : j < p.regs.length
    · obtain ⟨e0, e1⟩ := (H1.out.ext X.out).reg j hlt
      obtain ⟨f0, f1⟩ := (H3.out.ext X.out).reg j hlt
      generalize p.regs.getD j default = r at *
      have k0 : ∀ W, Ext wr W → W.cell? ⟨ba, ua + j * 2, none⟩ = some (.int .i64 r.log) := fun _ h => h.kept e0
      have k1 : ∀ W, Ext wr W → W.cell? ⟨ba, ua + j * 2 + 1, none⟩ = some (.bool r.secret) := fun _ h => h.kept e1
      have k2 : ∀ W, Ext wr W → W.cell? ⟨bc, uc + j * 2, none⟩ = some (.int .i64 r.log) := fun _ h => h.kept f0
      have k3 : ∀ W, Ext wr W → W.cell? ⟨bc, uc + j * 2 + 1, none⟩ = some (.bool r.secret) := fun _ h => h.kept f1
      have k4 : ∀ W, Ext wr W → W.cell? ⟨g, 0, none⟩ = some (.slice oa p.regs.length capa) := fun _ h => h.kept a0
      have k5 : ∀ W, Ext wr W → W.cell? ⟨g + 1, 0, none⟩ = some (.slice oc p.regs.length capc) := fun _ h => h.kept b0
      clear e0 e1 f0 f1
      go_upto_region 6 with fail
      refine region_calm 11 (by kernel_rfl) (by kernel_rfl) ?_
      simp only [List.take_succ_cons, List.take_zero, List.drop_succ_cons, List.drop_zero]
      repeat (first | (refine calm_fresh ?_ ?_ (fun wc hE => ?_) ?_; (decide); rfl; (focus (go_simp; done)); go_simp) | (refine calm_value ?_ ?_ ?_; (decide); (first | rfl | (focus (go_simp; done))); apply Exists.intro; refine ⟨fun wc hE => ?_, ?_⟩; (go_simp; exact rfl); go_simp) | (refine calm_call ?_ ?_ ?_; (decide); (first | rfl | (focus (go_simp; done))); apply Exists.intro; refine ⟨fun wc hE => ?_, ?_⟩; (go_simp; (first | fail)); go_simp) | (refine calm_skip ?_ ?_ ?_; (decide); (focus (go_simp; done)); go_simp))
      refine calm_nil ?_
      intro wx hx
      have HE := Lib.hid (HE.out.trans hx)
      clear hx k0 k1 k2 k3 k4 k5
      go_wp2
      go_roundw
      case rel => exact ⟨j + 1, by omega, by go_num, HE.out⟩
      case measure => first | (simp [intOf]; done) | (simp [intOf]; omega)
    · go_wp2_with fail
      obtain ⟨w1, hw1⟩ : ∃ w1, w1 = wr := ⟨_, rfl⟩
      subst hw1
      go_loopw [6] (fun i wr => ∃ j : Nat, j ≤ p.code.length ∧ i = .int .i64 j ∧ Ext w1 wr) (fun i _ => p.code.length - (intOf i).toNat)
      case atStart => exact ⟨0, by omega, rfl, Ext.refl _⟩
      case round =>
        obtain ⟨k, hk, rfl, hE⟩ := hrel
        have a1 := hE.kept a1
        have b1 := hE.kept b1
        have HE := Lib.hid hE
        have X := Lib.hid (X.out.trans hE)
        clear hE
        by_cases hltk : k < p.code.length
        · obtain ⟨e0, e1, e2, e3, e4⟩ := (H2.out.ext X.out).ins k hltk
          obtain ⟨f0, f1, f2, f3, f4⟩ := (H4.out.ext X.out).ins k hltk
          generalize p.code.getD k default = i at *
          have k0 : ∀ W, Ext wr W → W.cell? ⟨bb, ub + k * 5, none⟩ = some (.int .i64 i.op) := fun _ h => h.kept e0
          have k1 : ∀ W, Ext wr W → W.cell? ⟨bb, ub + k * 5 + 1, none⟩ = some (.int .i64 i.a) := fun _ h => h.kept e1
          have k2 : ∀ W, Ext wr W → W.cell? ⟨bb, ub + k * 5 + 2, none⟩ = some (.int .i64 i.b) := fun _ h => h.kept e2
          have k3 : ∀ W, Ext wr W → W.cell? ⟨bb, ub + k * 5 + 3, none⟩ = some (.int .i64 i.c) := fun _ h => h.kept e3
          have k4 : ∀ W, Ext wr W → W.cell? ⟨bb, ub + k * 5 + 4, none⟩ = some (.int .i64 i.n) := fun _ h => h.kept e4
          have l0 : ∀ W, Ext wr W → W.cell? ⟨bd, ud + k * 5, none⟩ = some (.int .i64 i.op) := fun _ h => h.kept f0
          have l1 : ∀ W, Ext wr W → W.cell? ⟨bd, ud + k * 5 + 1, none⟩ = some (.int .i64 i.a) := fun _ h => h.kept f1
          have l2 : ∀ W, Ext wr W → W.cell? ⟨bd, ud + k * 5 + 2, none⟩ = some (.int .i64 i.b) := fun _ h => h.kept f2
          have l3 : ∀ W, Ext wr W → W.cell? ⟨bd, ud + k * 5 + 3, none⟩ = some (.int .i64 i.c) := fun _ h => h.kept f3
          have l4 : ∀ W, Ext wr W → W.cell? ⟨bd, ud + k * 5 + 4, none⟩ = some (.int .i64 i.n) := fun _ h => h.kept f4
          have k5 : ∀ W, Ext wr W → W.cell? ⟨g, 1, none⟩ = some (.slice ob p.code.length capb) := fun _ h => h.kept a1
          have k6 : ∀ W, Ext wr W → W.cell? ⟨g + 1, 1, none⟩ = some (.slice od p.code.length capd) := fun _ h => h.kept b1
          clear e0 e1 e2 e3 e4 f0 f1 f2 f3 f4
          go_upto_region 11 with fail
          refine region_calm 11 (by kernel_rfl) (by kernel_rfl) ?_
          simp only [List.take_succ_cons, List.take_zero, List.drop_succ_cons, List.drop_zero]
          repeat (first | (refine calm_fresh ?_ ?_ (fun wc hE => ?_) ?_; (decide); rfl; (focus (go_simp; done)); go_simp) | (refine calm_value ?_ ?_ ?_; (decide); (first | rfl | (focus (go_simp; done))); apply Exists.intro; refine ⟨fun wc hE => ?_, ?_⟩; (go_simp; exact rfl); go_simp) | (refine calm_call ?_ ?_ ?_; (decide); (first | rfl | (focus (go_simp; done))); apply Exists.intro; refine ⟨fun wc hE => ?_, ?_⟩; (go_simp; (first | fail)); go_simp) | (refine calm_skip ?_ ?_ ?_; (decide); (focus (go_simp; done)); go_simp))
          refine calm_nil ?_
          intro wx hx
          have HE := Lib.hid (HE.out.trans hx)
          clear hx k0 k1 k2 k3 k4 k5 k6 l0 l1 l2 l3 l4
          go_wp2
          go_roundw
          case rel => exact ⟨k + 1, by omega, by go_num, HE.out⟩
          case measure => first | (simp [intOf]; done) | (simp [intOf]; omega)
        · go_wp2
          go_ret
          exact ⟨rfl, X.out⟩
end Go.Proofs.YtkkekbnhndfhjaaDoor
