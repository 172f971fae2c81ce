/- Laid together from: FormS2. -/
import Derived.Test.YteiknefajlocoaaCheckTellsB19

/- Walks of the reference's Is, May, Hard (chapter 2). -/
namespace Go.Proofs.Yteiknefajlocoaa
open Go.ChangeShapes Go.WideShapes Go.ChangeAt Go.RowKit
set_option linter.unusedVariables false
set_option linter.unusedSimpArgs false

theorem regsOk_all {l : List LReg} (h : regsOk l = true) : ∀ r ∈ l, 0 ≤ r.log ∧ r.log ≤ 6 := by
  intro r hr
  simp only [regsOk, Bool.and_eq_true, List.all_eq_true] at h
  have := h.1 r hr
  simpa [regOk] using this
set_option maxHeartbeats 4000000 in
theorem is_c (p : LProg) (v : Value) (most R : Int) (hm : R64 most) (fR : R64 R) (w : World) (hp : ProgAt w v p) :
    Calls Try.prog 59 #[v, .int .i64 most, .int .i64 R] w fun e w' => e = .returned (.bool (progOk p most R)) ∧ Ext w w' := by
  have hp' := hp
  obtain ⟨v1, v2, rfl, ⟨hb, oa, cap, b, o, rfl, hc1, hc2, hrow⟩, ⟨hf, ob, capb, b2, o2, rfl, hd1, hd2, hrow2⟩⟩ := hp
  have HP := Lib.hid hp'
  have hm0 := hm.1
  have hm1 := hm.2
  have hlen := len_bd hc1 hc2
  have hlen2 := len_bd hd1 hd2
  have hix := index_code (cap := capb) hrow2.at_
  have Hrow2 := Lib.hid hrow2
  clear hrow hrow2 hc1 hc2 hd1 hd2 hp'
  go_enter Try.func59, Try.ntmps59
  go_wp2_with fail
  obtain ⟨w0, g, hg, hW, hx, c0, c1⟩ := new2 w 25 (.slice oa p.regs.length cap) (.slice ob p.code.length capb)
  rw [hW, hg]
  have X := Lib.hid hx
  clear hW hg hx
  have C := rRegions_c p _ w0 (HP.out.ext X.out)
  have Hgoal : ∀ r : Bool, Hid (r = progOk p most R → Ending.returned (.bool r) = .returned (.bool (progOk p most R))) := fun r => Lib.hid fun h => by rw [h]
  cases hr : regsOk p.regs
  · rw [hr] at C
    have Hr := Lib.hid hr
    clear hr
    (with_reducible refine C.mono ?_)
    rintro e w1 ⟨rfl, h1⟩
    have X := Lib.hid (X.out.trans h1)
    clear h1 C
    go_wp2
    go_ret
    exact ⟨(Hgoal _).out (by simp [progOk, Hr.out]), X.out⟩
  rw [hr] at C
  have Hr := Lib.hid hr
  clear hr
  (with_reducible refine C.mono ?_)
  rintro e w1 ⟨rfl, h1⟩
  have X := Lib.hid (X.out.trans h1)
  have c0 := kept2 h1 c0
  have c1 := kept2 h1 c1
  clear h1 C
  by_cases q0 : (p.code.length : Int) < 1
  · go_wp2
    go_ret
    exact ⟨(Hgoal _).out (by
      have : ¬ 1 ≤ p.code.length := by omega
      simp [progOk, this]), X.out⟩
  have q0d : decide ((p.code.length : Int) < 1) = false := by simpa using q0
  by_cases q1 : most < (p.code.length : Int)
  · go_wp2
    go_ret
    exact ⟨(Hgoal _).out (by
      have : ¬ (p.code.length : Int) ≤ most := by omega
      simp [progOk, this]), X.out⟩
  have q1d : decide (most < (p.code.length : Int)) = false := by simpa using q1
  go_wp2_with fail
  go_loopw [7] (fun i wr => ∃ j : Nat, j ≤ p.code.length ∧ i = .int .i64 j ∧ Ext w1 wr ∧ (p.code.take j).all (insOk p R) = true) (fun i _ => p.code.length - (intOf i).toNat)
  case atStart => exact ⟨0, by omega, rfl, Ext.refl _, by simp⟩
  case round =>
    obtain ⟨j, hj, rfl, hE, hall⟩ := hrel
    have c0 := kept2 hE c0
    have c1 := kept2 hE c1
    have X := Lib.hid (X.out.trans hE)
    have HE := Lib.hid hE
    have Hall := Lib.hid hall
    clear hE hall
    by_cases hlt : j < p.code.length
    · obtain ⟨e0, e1, e2, e3, e4⟩ := (Hrow2.out.ext X.out).ins j hlt
      have hfi := hf _ (getD_mem hlt)
      have Hs := Lib.hid (take_all (insOk p R) p.code j default hlt Hall.out)
      have Hfalse := Lib.hid (all_false (insOk p R) p.code j default hlt)
      generalize p.code.getD j default = i at *
      have HC : ∀ W, Ext wr W → Hid (Calls Try.prog 100 #[.agg #[.slice oa p.regs.length cap, .slice ob p.code.length capb], .agg #[.int .i64 i.op, .int .i64 i.a, .int .i64 i.b, .int .i64 i.c, .int .i64 i.n], .int .i64 R] W fun e w' => e = .returned (.bool (insOk p R i)) ∧ Ext W w') := fun W h => Lib.hid (rIns_c p _ R fR i hfi W (HP.out.ext (X.out.trans h)) (regsOk_all Hr.out))
      have k0 : ∀ W, Ext wr W → W.cell? ⟨g, 0, none⟩ = some (.slice oa p.regs.length cap) := fun _ h => h.kept c0.1
      have k1 : ∀ W, Ext wr W → W.cell? ⟨g, 1, none⟩ = some (.slice ob p.code.length capb) := fun _ h => h.kept c1.1
      have m0 : ∀ W, Ext wr W → W.cell? ⟨b2, o2 + j * 5, none⟩ = some (.int .i64 i.op) := fun _ h => h.kept e0
      have m1 : ∀ W, Ext wr W → W.cell? ⟨b2, o2 + j * 5 + 1, none⟩ = some (.int .i64 i.a) := fun _ h => h.kept e1
      have m2 : ∀ W, Ext wr W → W.cell? ⟨b2, o2 + j * 5 + 2, none⟩ = some (.int .i64 i.b) := fun _ h => h.kept e2
      have m3 : ∀ W, Ext wr W → W.cell? ⟨b2, o2 + j * 5 + 3, none⟩ = some (.int .i64 i.c) := fun _ h => h.kept e3
      have m4 : ∀ W, Ext wr W → W.cell? ⟨b2, o2 + j * 5 + 4, none⟩ = some (.int .i64 i.n) := fun _ h => h.kept e4
      clear e0 e1 e2 e3 e4
      go_upto_region 6 with fail
      refine region_calm 9 (by kernel_rfl) (by kernel_rfl) ?_
      simp only [List.take_succ_cons, List.take_zero, List.drop_succ_cons, List.drop_zero]
      repeat (first | (refine calm_fresh ?_ ?_ (fun wc hE => ?_) ?_; (decide); rfl; (focus (go_simp; done)); go_simp) | (refine calm_value ?_ ?_ ?_; (decide); (first | rfl | (focus (go_simp; done))); apply Exists.intro; refine ⟨fun wc hE => ?_, ?_⟩; (go_simp; exact rfl); go_simp) | (refine calm_call ?_ ?_ ?_; (decide); (first | rfl | (focus (go_simp; done))); apply Exists.intro; refine ⟨fun wc hE => ?_, ?_⟩; (go_simp; (first | (with_reducible exact calm_enter ((HC _ ‹_›).out)))); go_simp) | (refine calm_skip ?_ ?_ ?_; (decide); (focus (go_simp; done)); go_simp))
      refine calm_nil ?_
      intro wx hx
      have HX := Lib.hid (HE.out.trans hx)
      have X := Lib.hid (X.out.trans hx)
      clear hx k0 k1 m0 m1 m2 m3 m4 HC
      cases hi : insOk p R i
      · have Hi := Lib.hid hi
        clear hi
        go_wp2
        go_ret
        exact ⟨(Hgoal _).out (by simp only [progOk, Hfalse.out Hi.out, Bool.and_false]), X.out⟩
      · rw [hi] at Hs
        clear hi
        go_wp2
        go_roundw
        case rel => exact ⟨j + 1, by omega, by go_num, HX.out, Hs.out⟩
        case measure => first | (simp [intOf]; done) | (simp [intOf]; omega)
    · have hje : j = p.code.length := by omega
      subst hje
      go_wp2
      go_ret
      refine ⟨(Hgoal _).out ?_, X.out⟩
      have h := Hall.out
      rw [List.take_length] at h
      have h1 : 1 ≤ p.code.length := by omega
      have h2 : (p.code.length : Int) ≤ most := by omega
      simp only [progOk, Hr.out, h, h1, h2, decide_true, Bool.and_true]
theorem rMay_c (p : LProg) (v : Value) (w : World) (hp : ProgAt w v p) :
    Calls Try.prog 26 #[v] w fun e w' => e = .returned (.bool (mayOk p)) ∧ Ext w w' := by
  have HP := Lib.hid hp
  obtain ⟨v1, v2, rfl, -⟩ := hp
  go_enter Try.func26, Try.ntmps26
  go_wp2_with fail
  have hA := (Ext.refl w).alloc (.cells #[v1, v2] 25)
  have C := is_c p _ 200 8 (by unfold R64; omega) (by unfold R64; omega) _ (HP.out.ext hA)
  (with_reducible refine C.mono ?_)
  rintro e w1 ⟨rfl, hx⟩
  have HX := Lib.hid (hA.trans hx)
  clear hx hA C
  go_wp2
  go_ret
  exact ⟨rfl, HX.out⟩
theorem rHard_c (p : LProg) (v : Value) (w : World) (hp : ProgAt w v p) :
    Calls Try.prog 37 #[v] w fun e w' => e = .returned (.bool (hardOk p)) ∧ Ext w w' := by
  have HP := Lib.hid hp
  obtain ⟨v1, v2, rfl, -⟩ := hp
  go_enter Try.func37, Try.ntmps37
  go_wp2_with fail
  have hA := (Ext.refl w).alloc (.cells #[v1, v2] 25)
  have C := is_c p _ 8000 10 (by unfold R64; omega) (by unfold R64; omega) _ (HP.out.ext hA)
  (with_reducible refine C.mono ?_)
  rintro e w1 ⟨rfl, hx⟩
  have HX := Lib.hid (hA.trans hx)
  clear hx hA C
  go_wp2
  go_ret
  exact ⟨rfl, HX.out⟩
end Go.Proofs.Yteiknefajlocoaa
