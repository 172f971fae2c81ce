/- Laid together from: Ref3e, Law1. -/
import Derived.Test.YteiknefajlocoaaHardenSameB15
import Derived.Test.YteiknefajlocoaaHardenSameB17
import Derived.Test.YteiknefajlocoaaHardenSameB10

/- Walks of the reference's Seen, Memories and Same (chapter 3), of what is the same. -/
namespace Go.Proofs.Yteiknefajlocoaa
open Go.ChangeShapes Go.WideShapes Go.ChangeAt Go.RowKit
set_option linter.unusedVariables false
set_option linter.unusedSimpArgs false

theorem i64_ne (x : Int) : (x != x) = false := by simp
set_option maxHeartbeats 4000000 in
theorem rMemEq_c (m : List (List Int)) (v u : Value) (w : World) (hv : MemAt w v m) (hu : MemAt w u m) :
    Calls Try.prog 49 #[v, u] w fun e w' => e = .returned (.bool true) ∧ Ext w w' := by
  obtain ⟨oa, cap, b, o, rfl, hc1, hc2, vs, hrow, hin⟩ := hv
  obtain ⟨ob, capb, b2, o2, rfl, hd1, hd2, us, hrow2, hin2⟩ := hu
  have hlen := len_bd hc1 hc2
  have hix := index_mem' (cap := cap) hrow.at_
  have hix2 := index_mem' (cap := capb) hrow2.at_
  have Hrow := Lib.hid hrow
  have Hrow2 := Lib.hid hrow2
  have Hin := Lib.hid hin
  have Hin2 := Lib.hid hin2
  have hne := i64_ne
  have hq1 : ((m.length : Int) != (m.length : Int)) = false := by simp
  clear hrow hrow2 hc1 hc2 hd1 hd2 hin hin2
  go_enter Try.func49, Try.ntmps49
  go_wp2_with fail
  go_loopw [5] (fun i wr => ∃ j : Nat, j ≤ m.length ∧ i = .int .i64 j ∧ Ext w wr) (fun i _ => m.length - (intOf i).toNat)
  case atStart => exact ⟨0, by omega, rfl, Ext.refl _⟩
  case round =>
    obtain ⟨j, hj, rfl, hE⟩ := hrel
    have X := Lib.hid hE
    clear hE
    by_cases hlt : j < m.length
    · have e0 := (Hrow.out.ext X.out).one j hlt
      have f0 := (Hrow2.out.ext X.out).one j hlt
      have h1 := (Hin.out j hlt).ext X.out
      have h2 := (Hin2.out j hlt).ext X.out
      generalize m.getD j default = l at *
      generalize vs j = vj at *
      generalize us j = uj at *
      obtain ⟨-, oc, capc, b3, o3, rfl, hc3, hc4, r3⟩ := h1
      obtain ⟨-, od, capd, b4, o4, rfl, hd3, hd4, r4⟩ := h2
      have hlen2 := len_bd hc3 hc4
      have hq2 : ((l.length : Int) != (l.length : Int)) = false := by simp
      have hiy := index_i64 (cap := capc) r3.at_
      have hiy2 := index_i64 (cap := capd) r4.at_
      have R3 := Lib.hid r3
      have R4 := Lib.hid r4
      have k0 : ∀ W, Ext wr W → W.cell? ⟨b, o + j, none⟩ = some (.slice oc l.length capc) := fun _ h => h.kept e0
      have k1 : ∀ W, Ext wr W → W.cell? ⟨b2, o2 + j, none⟩ = some (.slice od l.length capd) := fun _ h => h.kept f0
      clear r3 r4 hc3 hc4 hd3 hd4
      go_upto_region 6 with fail
      refine region_calm 11 (by kernel_rfl) (by kernel_rfl) ?_
      simp only [List.take_succ_cons, List.take_zero, List.drop_succ_cons, List.drop_zero]
      repeat (first | (refine calm_fresh ?_ ?_ (fun wc hE => ?_) ?_; (decide); rfl; (focus (go_simp; done)); go_simp) | (refine calm_value ?_ ?_ ?_; (decide); (first | rfl | (focus (go_simp; done))); apply Exists.intro; refine ⟨fun wc hE => ?_, ?_⟩; (go_simp; exact rfl); go_simp) | (refine calm_call ?_ ?_ ?_; (decide); (first | rfl | (focus (go_simp; done))); apply Exists.intro; refine ⟨fun wc hE => ?_, ?_⟩; (go_simp; (first | fail)); go_simp) | (refine calm_skip ?_ ?_ ?_; (decide); (focus (go_simp; done)); go_simp))
      refine calm_nil ?_
      intro wx hx
      have HE := Lib.hid hx
      have X := Lib.hid (X.out.trans hx)
      clear k0 k1
      have e0 := hx.kept e0
      have f0 := hx.kept f0
      clear hx
      go_wp2_with fail
      obtain ⟨w1, hw1⟩ : ∃ w1, w1 = wx := ⟨_, rfl⟩
      subst hw1
      go_loopw [6] (fun i wr => ∃ k : Nat, k ≤ l.length ∧ i = .int .i64 k ∧ Ext w1 wr) (fun i _ => l.length - (intOf i).toNat)
      case atStart => exact ⟨0, by omega, rfl, Ext.refl _⟩
      case round =>
        obtain ⟨k, hk, rfl, hE⟩ := hrel
        have e0 := hE.kept e0
        have f0 := hE.kept f0
        have HE2 := Lib.hid (HE.out.trans hE)
        have HE1 := Lib.hid hE
        clear hE
        by_cases hltk : k < l.length
        · have e1 := (R3.out.ext HE2.out).one k hltk
          have f1 := (R4.out.ext HE2.out).one k hltk
          generalize l.getD k default = x at *
          have k0 : ∀ W, Ext wr W → W.cell? ⟨b, o + j, none⟩ = some (.slice oc l.length capc) := fun _ h => h.kept e0
          have k1 : ∀ W, Ext wr W → W.cell? ⟨b2, o2 + j, none⟩ = some (.slice od l.length capd) := fun _ h => h.kept f0
          have k2 : ∀ W, Ext wr W → W.cell? ⟨b3, o3 + k, none⟩ = some (.int .i64 x) := fun _ h => h.kept e1
          have k3 : ∀ W, Ext wr W → W.cell? ⟨b4, o4 + k, none⟩ = some (.int .i64 x) := fun _ h => h.kept f1
          clear f0 e1 f1
          go_upto_region 11 with fail
          refine region_calm 15 (by kernel_rfl) (by kernel_rfl) ?_
          simp only [List.take_succ_cons, List.take_zero, List.drop_succ_cons, List.drop_zero]
          repeat (first | (refine calm_fresh ?_ ?_ (fun wc hE => ?_) ?_; (decide); rfl; (focus (go_simp; done)); go_simp) | (refine calm_value ?_ ?_ ?_; (decide); (first | rfl | (focus (go_simp; done))); apply Exists.intro; refine ⟨fun wc hE => ?_, ?_⟩; (go_simp; exact rfl); go_simp) | (refine calm_call ?_ ?_ ?_; (decide); (first | rfl | (focus (go_simp; done))); apply Exists.intro; refine ⟨fun wc hE => ?_, ?_⟩; (go_simp; (first | fail)); go_simp) | (refine calm_skip ?_ ?_ ?_; (decide); (focus (go_simp; done)); go_simp))
          refine calm_nil ?_
          intro wy hy
          have HE1 := Lib.hid (HE1.out.trans hy)
          clear hy k0 k1 k2 k3 e0
          go_wp2
          go_roundw
          case rel => exact ⟨k + 1, by omega, by go_num, HE1.out⟩
          case measure => first | (simp [intOf]; done) | (simp [intOf]; omega)
        · have hje : k = l.length := by omega
          subst hje
          have hlt2 : decide ((l.length : Int) < (l.length : Int)) = false := by simp
          go_wp2
          go_roundw
          case rel => exact ⟨j + 1, by omega, by go_num, X.out.trans HE1.out⟩
          case measure => first | (simp [intOf]; done) | (simp [intOf]; omega)
    · have hje : j = m.length := by omega
      subst hje
      have hlt2 : decide ((m.length : Int) < (m.length : Int)) = false := by simp
      go_wp2
      go_ret
      exact ⟨rfl, X.out⟩
end Go.Proofs.Yteiknefajlocoaa
/- Walks of what the laws of hardened programs share: regions, same. -/
namespace Go.Proofs.Yteiknefajlocoaa
open Go.ChangeShapes Go.WideShapes Go.ChangeAt Go.RowKit
set_option linter.unusedVariables false
set_option linter.unusedSimpArgs false

theorem code_none (w : World) : CodeAt w (.slice none 0 0) [] := ⟨by simp, none, 0, 0, 0, rfl, by simp, by decide, ⟨fun h => by simp at h, fun i j hi hj => by simp at hi⟩⟩
theorem fits_regs {p q : LProg} {m : List (List Int)} (h : q.regs = p.regs) (hf : fitsOk p m = true) : fitsOk q m = true := by
  unfold fitsOk at hf ⊢
  rw [h]
  exact hf
theorem progR {w : World} {v : Value} {r : List LReg} (h : RegsAt w v r) : ProgAt w (.agg #[v, .slice none 0 0]) ⟨r, []⟩ := ⟨_, _, rfl, h, code_none _⟩
theorem prog_forms {w : World} {v : Value} {p : LProg} (h : ProgAt w v p) : ∃ a b c d, v = .agg #[.slice a p.regs.length b, .slice c p.code.length d] ∧ RegsAt w (.slice a p.regs.length b) p.regs ∧ CodeAt w (.slice c p.code.length d) p.code := by
  obtain ⟨v1, v2, rfl, h1, h2⟩ := h
  have g1 := h1
  have g2 := h2
  obtain ⟨-, oa, cap, b, o, rfl, -⟩ := h1
  obtain ⟨-, ob, capb, b2, o2, rfl, -⟩ := h2
  exact ⟨_, _, _, _, rfl, g1, g2⟩
set_option maxRecDepth 100000 in
theorem regionsL_c (p q : LProg) (v u : Value) (w : World) (hp : ProgAt w v p) (hq : ProgAt w u q) (h : q.regs = p.regs) :
    Calls Try.prog 38 #[v, u] w fun e w' => e = .returned (.bool true) ∧ Ext w w' := by
  obtain ⟨a1, a2, a3, a4, rfl, hr, -⟩ := prog_forms hp
  obtain ⟨b1, b2, b3, b4, rfl, hs, -⟩ := prog_forms hq
  rw [h] at hs
  have HR := Lib.hid hr
  have HS := Lib.hid hs
  rw [h]
  clear hr hs hp hq
  go_enter Try.func38, Try.ntmps38
  go_wp2_with fail
  (with_reducible refine (rSame_c ⟨p.regs, []⟩ _ _ _ (progR (HR.out.ext ?_)) (progR (HS.out.ext ?_))).mono ?_)
  · repeat' first | (with_reducible exact Ext.refl _) | (with_reducible refine Ext.alloc ?_ _) | (with_reducible refine Ext.drew ?_)
  · repeat' first | (with_reducible exact Ext.refl _) | (with_reducible refine Ext.alloc ?_ _) | (with_reducible refine Ext.drew ?_)
  rintro e w1 ⟨rfl, hx⟩
  have X : Ext w w1 := (by repeat' first | (with_reducible exact Ext.refl _) | (with_reducible refine Ext.alloc ?_ _) | (with_reducible refine Ext.drew ?_) : Ext w _).trans hx
  clear hx
  go_wp2
  go_ret
  exact ⟨rfl, X⟩
set_option maxRecDepth 100000 in
set_option maxHeartbeats 4000000 in
theorem sameL_c (mem : List (List Int)) (fin value f' v' : Int) (s s' : Nat) (seen seen' : List LSee) (mem' : List (List Int)) (v u : Value) (w : World) (hv : ShownAt w v f' v' s' seen' mem') (hu : ShownAt w u fin value s seen mem) (h : fin ≠ 0 → f' = fin ∧ v' = value ∧ mem' = mem) :
    Calls Try.prog 39 #[v, u] w fun e w' => e = .returned (.bool true) ∧ Ext w w' := by
  obtain ⟨s1, m1, rfl, hs1, hm1⟩ := hv
  obtain ⟨s2, m2, rfl, hs2, hm2⟩ := hu
  have HM1 := Lib.hid hm1
  have HM2 := Lib.hid hm2
  obtain ⟨o1, c1, b1, q1, rfl, -⟩ := hs1
  obtain ⟨o2, c2, b2, q2, rfl, -⟩ := hs2
  obtain ⟨o3, c3, b3, q3, rfl, -⟩ := hm1
  obtain ⟨o4, c4, b4, q4, rfl, -⟩ := hm2
  by_cases h0 : fin = 0
  · subst h0
    clear h HM1 HM2
    go_enter Try.func39, Try.ntmps39
    go_wp2
    go_ret
    exact ⟨rfl, ((Ext.refl _).alloc _).alloc _⟩
  · obtain ⟨rfl, rfl, rfl⟩ := h h0
    have hq : (f' == (0 : Int)) = false := by simp [h0]
    have hq1 : (f' == f') = true := by simp
    have hq2 : (v' == v') = true := by simp
    clear h h0
    go_enter Try.func39, Try.ntmps39
    go_wp2_with fail
    (with_reducible refine (rMemEq_c mem' _ _ _ (HM1.out.ext ?_) (HM2.out.ext ?_)).mono ?_)
    · repeat' first | (with_reducible exact Ext.refl _) | (with_reducible refine Ext.alloc ?_ _) | (with_reducible refine Ext.drew ?_)
    · repeat' first | (with_reducible exact Ext.refl _) | (with_reducible refine Ext.alloc ?_ _) | (with_reducible refine Ext.drew ?_)
    rintro e w1 ⟨rfl, hx⟩
    have X : Ext w w1 := (by repeat' first | (with_reducible exact Ext.refl _) | (with_reducible refine Ext.alloc ?_ _) | (with_reducible refine Ext.drew ?_) : Ext w _).trans hx
    clear hx
    go_wp2
    go_ret
    exact ⟨rfl, X⟩
end Go.Proofs.Yteiknefajlocoaa
