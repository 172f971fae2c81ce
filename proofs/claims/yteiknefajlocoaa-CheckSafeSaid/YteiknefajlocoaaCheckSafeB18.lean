/- Laid together from: FormS2, FormF, CkS1, OpenP, Bar. -/
import Derived.Test.YteiknefajlocoaaCheckSafeB17
import Derived.Test.YteiknefajlocoaaCheckSafeB13
import Derived.Test.YteiknefajlocoaaCheckSafeB14
import Derived.Test.YteiknefajlocoaaCheckSafeB15
import Derived.Test.YteiknefajlocoaaProg
import Derived.Test.YteiknefajlocoaaCheckSafeB1
import Derived.Lib.SmallJoins
import Derived.Deep.Slices
import Derived.Deep.Fields
import Derived.ChangeSame
import Derived.Test.YteiknefajlocoaaRows
import Derived.JoinedOf

/- Walks of the reference's Is, May, Hard (chapter 2). -/
namespace Go.Proofs.Yteiknefajlocoaa
open Go.ChangeShapes Go.WideShapes Go.ChangeAt Go.RowKit
set_option linter.unusedVariables false
set_option linter.unusedSimpArgs false

theorem regsOk_all {l : List LReg} (h : regsOk l = true) : ∀ r ∈ l, 0 ≤ r.log ∧ r.log ≤ 6 := by
  intro r hr
  simp only [regsOk, Bool.and_eq_true, List.all_eq_true] at h
  have := h.1 r hr
  simpa [regOk] using this
set_option maxHeartbeats 4000000 in
theorem is_c (p : LProg) (v : Value) (most R : Int) (hm : R64 most) (fR : R64 R) (w : World) (hp : ProgAt w v p) :
    Calls Try.prog 59 #[v, .int .i64 most, .int .i64 R] w fun e w' => e = .returned (.bool (progOk p most R)) ∧ Ext w w' := by
  have hp' := hp
  obtain ⟨v1, v2, rfl, ⟨hb, oa, cap, b, o, rfl, hc1, hc2, hrow⟩, ⟨hf, ob, capb, b2, o2, rfl, hd1, hd2, hrow2⟩⟩ := hp
  have HP := Lib.hid hp'
  have hm0 := hm.1
  have hm1 := hm.2
  have hlen := len_bd hc1 hc2
  have hlen2 := len_bd hd1 hd2
  have hix := index_code (cap := capb) hrow2.at_
  have Hrow2 := Lib.hid hrow2
  clear hrow hrow2 hc1 hc2 hd1 hd2 hp'
  go_enter Try.func59, Try.ntmps59
  go_wp2_with fail
  obtain ⟨w0, g, hg, hW, hx, c0, c1⟩ := new2 w 25 (.slice oa p.regs.length cap) (.slice ob p.code.length capb)
  rw [hW, hg]
  have X := Lib.hid hx
  clear hW hg hx
  have C := rRegions_c p _ w0 (HP.out.ext X.out)
  have Hgoal : ∀ r : Bool, Hid (r = progOk p most R → Ending.returned (.bool r) = .returned (.bool (progOk p most R))) := fun r => Lib.hid fun h => by rw [h]
  cases hr : regsOk p.regs
  · rw [hr] at C
    have Hr := Lib.hid hr
    clear hr
    (with_reducible refine C.mono ?_)
    rintro e w1 ⟨rfl, h1⟩
    have X := Lib.hid (X.out.trans h1)
    clear h1 C
    go_wp2
    go_ret
    exact ⟨(Hgoal _).out (by simp [progOk, Hr.out]), X.out⟩
  rw [hr] at C
  have Hr := Lib.hid hr
  clear hr
  (with_reducible refine C.mono ?_)
  rintro e w1 ⟨rfl, h1⟩
  have X := Lib.hid (X.out.trans h1)
  have c0 := kept2 h1 c0
  have c1 := kept2 h1 c1
  clear h1 C
  by_cases q0 : (p.code.length : Int) < 1
  · go_wp2
    go_ret
    exact ⟨(Hgoal _).out (by
      have : ¬ 1 ≤ p.code.length := by omega
      simp [progOk, this]), X.out⟩
  have q0d : decide ((p.code.length : Int) < 1) = false := by simpa using q0
  by_cases q1 : most < (p.code.length : Int)
  · go_wp2
    go_ret
    exact ⟨(Hgoal _).out (by
      have : ¬ (p.code.length : Int) ≤ most := by omega
      simp [progOk, this]), X.out⟩
  have q1d : decide (most < (p.code.length : Int)) = false := by simpa using q1
  go_wp2_with fail
  go_loopw [7] (fun i wr => ∃ j : Nat, j ≤ p.code.length ∧ i = .int .i64 j ∧ Ext w1 wr ∧ (p.code.take j).all (insOk p R) = true) (fun i _ => p.code.length - (intOf i).toNat)
  case atStart => exact ⟨0, by omega, rfl, Ext.refl _, by simp⟩
  case round =>
    obtain ⟨j, hj, rfl, hE, hall⟩ := hrel
    have c0 := kept2 hE c0
    have c1 := kept2 hE c1
    have X := Lib.hid (X.out.trans hE)
    have HE := Lib.hid hE
    have Hall := Lib.hid hall
    clear hE hall
    by_cases hlt : j < p.code.length
    · obtain ⟨e0, e1, e2, e3, e4⟩ := (Hrow2.out.ext X.out).ins j hlt
      have hfi := hf _ (getD_mem hlt)
      have Hs := Lib.hid (take_all (insOk p R) p.code j default hlt Hall.out)
      have Hfalse := Lib.hid (all_false (insOk p R) p.code j default hlt)
      generalize p.code.getD j default = i at *
      have HC : ∀ W, Ext wr W → Hid (Calls Try.prog 100 #[.agg #[.slice oa p.regs.length cap, .slice ob p.code.length capb], .agg #[.int .i64 i.op, .int .i64 i.a, .int .i64 i.b, .int .i64 i.c, .int .i64 i.n], .int .i64 R] W fun e w' => e = .returned (.bool (insOk p R i)) ∧ Ext W w') := fun W h => Lib.hid (rIns_c p _ R fR i hfi W (HP.out.ext (X.out.trans h)) (regsOk_all Hr.out))
      have k0 : ∀ W, Ext wr W → W.cell? ⟨g, 0, none⟩ = some (.slice oa p.regs.length cap) := fun _ h => h.kept c0.1
      have k1 : ∀ W, Ext wr W → W.cell? ⟨g, 1, none⟩ = some (.slice ob p.code.length capb) := fun _ h => h.kept c1.1
      have m0 : ∀ W, Ext wr W → W.cell? ⟨b2, o2 + j * 5, none⟩ = some (.int .i64 i.op) := fun _ h => h.kept e0
      have m1 : ∀ W, Ext wr W → W.cell? ⟨b2, o2 + j * 5 + 1, none⟩ = some (.int .i64 i.a) := fun _ h => h.kept e1
      have m2 : ∀ W, Ext wr W → W.cell? ⟨b2, o2 + j * 5 + 2, none⟩ = some (.int .i64 i.b) := fun _ h => h.kept e2
      have m3 : ∀ W, Ext wr W → W.cell? ⟨b2, o2 + j * 5 + 3, none⟩ = some (.int .i64 i.c) := fun _ h => h.kept e3
      have m4 : ∀ W, Ext wr W → W.cell? ⟨b2, o2 + j * 5 + 4, none⟩ = some (.int .i64 i.n) := fun _ h => h.kept e4
      clear e0 e1 e2 e3 e4
      go_upto_region 6 with fail
      refine region_calm 9 (by kernel_rfl) (by kernel_rfl) ?_
      simp only [List.take_succ_cons, List.take_zero, List.drop_succ_cons, List.drop_zero]
      repeat (first | (refine calm_fresh ?_ ?_ (fun wc hE => ?_) ?_; (decide); rfl; (focus (go_simp; done)); go_simp) | (refine calm_value ?_ ?_ ?_; (decide); (first | rfl | (focus (go_simp; done))); apply Exists.intro; refine ⟨fun wc hE => ?_, ?_⟩; (go_simp; exact rfl); go_simp) | (refine calm_call ?_ ?_ ?_; (decide); (first | rfl | (focus (go_simp; done))); apply Exists.intro; refine ⟨fun wc hE => ?_, ?_⟩; (go_simp; (first | (with_reducible exact calm_enter ((HC _ ‹_›).out)))); go_simp) | (refine calm_skip ?_ ?_ ?_; (decide); (focus (go_simp; done)); go_simp))
      refine calm_nil ?_
      intro wx hx
      have HX := Lib.hid (HE.out.trans hx)
      have X := Lib.hid (X.out.trans hx)
      clear hx k0 k1 m0 m1 m2 m3 m4 HC
      cases hi : insOk p R i
      · have Hi := Lib.hid hi
        clear hi
        go_wp2
        go_ret
        exact ⟨(Hgoal _).out (by simp only [progOk, Hfalse.out Hi.out, Bool.and_false]), X.out⟩
      · rw [hi] at Hs
        clear hi
        go_wp2
        go_roundw
        case rel => exact ⟨j + 1, by omega, by go_num, HX.out, Hs.out⟩
        case measure => first | (simp [intOf]; done) | (simp [intOf]; omega)
    · have hje : j = p.code.length := by omega
      subst hje
      go_wp2
      go_ret
      refine ⟨(Hgoal _).out ?_, X.out⟩
      have h := Hall.out
      rw [List.take_length] at h
      have h1 : 1 ≤ p.code.length := by omega
      have h2 : (p.code.length : Int) ≤ most := by omega
      simp only [progOk, Hr.out, h, h1, h2, decide_true, Bool.and_true]
theorem rMay_c (p : LProg) (v : Value) (w : World) (hp : ProgAt w v p) :
    Calls Try.prog 26 #[v] w fun e w' => e = .returned (.bool (mayOk p)) ∧ Ext w w' := by
  have HP := Lib.hid hp
  obtain ⟨v1, v2, rfl, -⟩ := hp
  go_enter Try.func26, Try.ntmps26
  go_wp2_with fail
  have hA := (Ext.refl w).alloc (.cells #[v1, v2] 25)
  have C := is_c p _ 200 8 (by unfold R64; omega) (by unfold R64; omega) _ (HP.out.ext hA)
  (with_reducible refine C.mono ?_)
  rintro e w1 ⟨rfl, hx⟩
  have HX := Lib.hid (hA.trans hx)
  clear hx hA C
  go_wp2
  go_ret
  exact ⟨rfl, HX.out⟩
theorem rHard_c (p : LProg) (v : Value) (w : World) (hp : ProgAt w v p) :
    Calls Try.prog 37 #[v] w fun e w' => e = .returned (.bool (hardOk p)) ∧ Ext w w' := by
  have HP := Lib.hid hp
  obtain ⟨v1, v2, rfl, -⟩ := hp
  go_enter Try.func37, Try.ntmps37
  go_wp2_with fail
  have hA := (Ext.refl w).alloc (.cells #[v1, v2] 25)
  have C := is_c p _ 8000 10 (by unfold R64; omega) (by unfold R64; omega) _ (HP.out.ext hA)
  (with_reducible refine C.mono ?_)
  rintro e w1 ⟨rfl, hx⟩
  have HX := Lib.hid (hA.trans hx)
  clear hx hA C
  go_wp2
  go_ret
  exact ⟨rfl, HX.out⟩
end Go.Proofs.Yteiknefajlocoaa
/- Walks of Fits, of layout and of the reference. -/
namespace Go.Proofs.Yteiknefajlocoaa
open Go.ChangeShapes Go.WideShapes Go.ChangeAt Go.RowKit
set_option linter.unusedVariables false
set_option linter.unusedSimpArgs false

theorem index_mem {oa : Option Addr} {n b o cap : Nat} (h : 0 < n → oa = some ⟨b, o, none⟩) (W : World) (i : Int) (h0 : 0 ≤ i) (h1 : i < n) :
    (Instr.indexAt 31 (.slice oa n cap) (.int .i64 i)).run Try.prog W = .ok (.pointer (some ⟨b, o + i.toNat, none⟩)) W := by
  obtain rfl := h (by omega)
  have hs : (Try.prog.info? 71).map (·.size) = some 1 := by kernel_rfl
  simp [Instr.indexAt, run_underlying Try.underlying31, asIntOf, h0, h1]
  exact addr_add b o _
def fitOne (p : LProg) (m : List (List Int)) (i : Nat) : Bool := decide ((m.getD i default).length = wordsOf (p.regs.getD i default))
theorem take_range (f : Nat → Bool) (k n : Nat) (hk : k < n) (h : (List.range k).all f = true) : (List.range (k + 1)).all f = f k := by
  rw [List.range_succ, List.all_append, h]; simp
theorem range_false (f : Nat → Bool) (k n : Nat) (hk : k < n) (h : f k = false) : (List.range n).all f = false := by
  rw [List.all_eq_false]; exact ⟨k, List.mem_range.2 hk, by simp [h]⟩
theorem fits_eq (p : LProg) (m : List (List Int)) : fitsOk p m = (regsOk p.regs && decide (m.length = p.regs.length) && (List.range p.regs.length).all (fitOne p m)) := rfl
theorem logs_ok {l : List LReg} (h : regsOk l = true) : ∀ r ∈ l, 0 ≤ r.log ∧ r.log ≤ 6 := by
  intro r hr
  simp only [regsOk, Bool.and_eq_true, List.all_eq_true] at h
  have := h.1 r hr
  simpa [regOk] using this
theorem words64 {r : LReg} (h : r.log ≤ 6) : wordsOf r ≤ 64 := by
  unfold wordsOf
  exact Nat.le_trans (Nat.pow_le_pow_right (by omega) (show r.log.toNat ≤ 6 by omega)) (by decide)
set_option maxHeartbeats 4000000 in
theorem lFits_c (p : LProg) (v : Value) (m : List (List Int)) (vm : Value) (w : World) (hp : ProgAt w v p) (hm : MemAt w vm m) :
    Calls Try.prog 104 #[v, vm] w fun e w' => e = .returned (.bool (fitsOk p m)) ∧ Ext w w' := by
  have hp' := hp
  have hm' := hm
  obtain ⟨v1, v2, rfl, ⟨hb, oa, cap, b, o, rfl, hc1, hc2, hrow⟩, hcode⟩ := hp
  obtain ⟨om, capm, bm, um, rfl, hd1, hd2, vs, hrow2, hvs⟩ := hm
  have HP := Lib.hid hp'
  have hlen := len_bd hc1 hc2
  have hlen2 := len_bd hd1 hd2
  have hix := index_regs (cap := cap) hrow.at_
  have hixm := index_mem (cap := capm) hrow2.at_
  have Hrow := Lib.hid hrow
  have Hrow2 := Lib.hid hrow2
  have Hvs := Lib.hid hvs
  have Hgoal : ∀ r : Bool, Hid (r = fitsOk p m → Ending.returned (.bool r) = .returned (.bool (fitsOk p m))) := fun r => Lib.hid fun h => by rw [h]
  clear hrow hrow2 hc1 hc2 hd1 hd2 hp' hcode hvs hm'
  go_enter Try.func104, Try.ntmps104
  go_wp2_with fail
  obtain ⟨w0, g, hg, hW, hx, c0, c1⟩ := new2 w 25 (.slice oa p.regs.length cap) v2
  rw [hW, hg]
  have X := Lib.hid hx
  clear hW hg hx
  have C := regions_c p _ w0 (HP.out.ext X.out)
  cases hr : regsOk p.regs
  · rw [hr] at C
    have Hr := Lib.hid hr
    clear hr
    (with_reducible refine C.mono ?_)
    rintro e w1 ⟨rfl, h1⟩
    have X := Lib.hid (X.out.trans h1)
    clear h1 C
    go_wp2
    go_ret
    exact ⟨(Hgoal _).out (by simp [fits_eq, Hr.out]), X.out⟩
  rw [hr] at C
  have Hr := Lib.hid hr
  clear hr
  (with_reducible refine C.mono ?_)
  rintro e w1 ⟨rfl, h1⟩
  have X := Lib.hid (X.out.trans h1)
  have c0 := kept2 h1 c0
  have c1 := kept2 h1 c1
  clear h1 C
  by_cases q0 : m.length = p.regs.length
  rotate_left
  · have q0d : ((m.length : Int) != (p.regs.length : Int)) = true := by simp; omega
    have Q := Lib.hid q0
    clear q0
    go_wp2
    go_ret
    exact ⟨(Hgoal _).out (by simp [fits_eq, Q.out]), X.out⟩
  have q0d : ((m.length : Int) != (p.regs.length : Int)) = false := by simp; omega
  have Q := Lib.hid q0
  have hml : m.length ≤ p.regs.length ∧ p.regs.length ≤ m.length := by omega
  clear q0
  go_wp2_with fail
  go_loopw [21] (fun i wr => ∃ j : Nat, j ≤ p.regs.length ∧ i = .int .i64 j ∧ Ext w1 wr ∧ (List.range j).all (fitOne p m) = true) (fun i _ => p.regs.length - (intOf i).toNat)
  case atStart => exact ⟨0, by omega, rfl, Ext.refl _, by simp⟩
  case round =>
    obtain ⟨j, hj, rfl, hE, hall⟩ := hrel
    have c0 := kept2 hE c0
    have c1 := kept2 hE c1
    have X := Lib.hid (X.out.trans hE)
    have HE := Lib.hid hE
    have Hall := Lib.hid hall
    clear hE hall
    by_cases hlt : j < p.regs.length
    · obtain ⟨e0, e1⟩ := (Hrow.out.ext X.out).reg j hlt
      have hjm : j < m.length := by omega
      have f0 := (Hrow2.out.ext X.out).one j hjm
      obtain ⟨-, oj, capj, bj, uj, hvj, hj1, hj2, -⟩ := Hvs.out j hjm
      rw [hvj] at f0
      clear hvj
      have hlj := len_bd hj1 hj2
      have hlog := logs_ok Hr.out _ (getD_mem hlt)
      have Hs := Lib.hid (take_range (fitOne p m) j p.regs.length hlt Hall.out)
      have Hfalse := Lib.hid (range_false (fitOne p m) j p.regs.length hlt)
      have Hone : Hid (fitOne p m j = decide ((m.getD j default).length = wordsOf (p.regs.getD j default))) := Lib.hid rfl
      have Hw := Lib.hid (words64 hlog.2)
      generalize p.regs.getD j default = r at *
      generalize hmj : (m.getD j default).length = lm at *
      clear hmj hj1 hj2
      go_upto_region 6 with fail
      obtain ⟨w2, hw2⟩ : ∃ w2, w2 = wr.alloc (.cells #[.int .i64 r.log, .bool r.secret] 68) := ⟨_, rfl⟩
      have bR : Blk w2 wr.heap.size 68 #[.int .i64 r.log, .bool r.secret] := by rw [hw2]; exact Blk.new wr _ _
      have h2 : Ext wr w2 := by rw [hw2]; exact (Ext.refl wr).alloc _
      rw [← hw2]
      clear hw2
      have r0 : w2.cell? ⟨wr.heap.size, 0, none⟩ = some (.int .i64 r.log) := by rw [bR.cell]; rfl
      have r1 : w2.cell? ⟨wr.heap.size, 1, none⟩ = some (.bool r.secret) := by rw [bR.cell]; rfl
      generalize wr.heap.size = kr at *
      have k0 : ∀ W, Ext w2 W → W.cell? ⟨kr, 0, none⟩ = some (.int .i64 r.log) := fun _ h => h.kept r0
      have k1 : ∀ W, Ext w2 W → W.cell? ⟨kr, 1, none⟩ = some (.bool r.secret) := fun _ h => h.kept r1
      have k2 : ∀ W, Ext w2 W → W.cell? ⟨bm, um + j, none⟩ = some (.slice oj lm capj) := fun _ h => h.kept (h2.kept f0)
      have X := Lib.hid (X.out.trans h2)
      have HE := Lib.hid (HE.out.trans h2)
      have c0 := kept2 h2 c0
      have c1 := kept2 h2 c1
      clear h2 e0 e1 f0 r0 r1 bR
      have hjm' : (j : Int) < (m.length : Int) := by omega
      refine region_calm 8 (by kernel_rfl) (by kernel_rfl) ?_
      simp only [List.take_succ_cons, List.take_zero, List.drop_succ_cons, List.drop_zero]
      repeat (first | (refine calm_fresh ?_ ?_ (fun wc hE => ?_) ?_; (decide); rfl; (focus (go_simp; done)); go_simp) | (refine calm_value ?_ ?_ ?_; (decide); (first | rfl | (focus (go_simp; done))); apply Exists.intro; refine ⟨fun wc hE => ?_, ?_⟩; (go_simp; exact rfl); go_simp) | (refine calm_call ?_ ?_ ?_; (decide); (first | rfl | (focus (go_simp; done))); apply Exists.intro; refine ⟨fun wc hE => ?_, ?_⟩; (go_simp; (first | (with_reducible exact calm_enter (words_c r hlog.1 hlog.2 _)))); go_simp) | (refine calm_skip ?_ ?_ ?_; (decide); (focus (go_simp; done)); go_simp))
      refine calm_nil ?_
      intro wx hx
      have HX := Lib.hid (HE.out.trans hx)
      have X := Lib.hid (X.out.trans hx)
      clear hx k0 k1 k2
      by_cases hq : lm = wordsOf r
      · have hqd : ((lm : Int) != ((wordsOf r : Nat) : Int)) = false := by simp; omega
        have HQ := Lib.hid hq
        clear hq
        go_wp2
        go_roundw
        case rel => exact ⟨j + 1, by omega, by go_num, HX.out, by rw [Hs.out, Hone.out]; simp [HQ.out]⟩
        case measure => first | (simp [intOf]; done) | (simp [intOf]; omega)
      · have hqd : ((lm : Int) != ((wordsOf r : Nat) : Int)) = true := by simp; omega
        have HQ := Lib.hid hq
        clear hq
        go_wp2
        go_ret
        exact ⟨(Hgoal _).out (by rw [fits_eq, Hfalse.out (by rw [Hone.out]; simp [HQ.out]), Bool.and_false]), X.out⟩
    · have hje : j = p.regs.length := by omega
      subst hje
      have hjm : m.length ≤ p.regs.length := by omega
      go_wp2
      go_ret
      exact ⟨(Hgoal _).out (by simp [fits_eq, Hr.out, Q.out, Hall.out]), X.out⟩
set_option maxHeartbeats 4000000 in
theorem rFits_c (p : LProg) (v : Value) (m : List (List Int)) (vm : Value) (w : World) (hp : ProgAt w v p) (hm : MemAt w vm m) :
    Calls Try.prog 27 #[v, vm] w fun e w' => e = .returned (.bool (fitsOk p m)) ∧ Ext w w' := by
  have hp' := hp
  have hm' := hm
  obtain ⟨v1, v2, rfl, ⟨hb, oa, cap, b, o, rfl, hc1, hc2, hrow⟩, hcode⟩ := hp
  obtain ⟨om, capm, bm, um, rfl, hd1, hd2, vs, hrow2, hvs⟩ := hm
  have HP := Lib.hid hp'
  have hlen := len_bd hc1 hc2
  have hlen2 := len_bd hd1 hd2
  have hix := index_regs (cap := cap) hrow.at_
  have hixm := index_mem (cap := capm) hrow2.at_
  have Hrow := Lib.hid hrow
  have Hrow2 := Lib.hid hrow2
  have Hvs := Lib.hid hvs
  have Hgoal : ∀ r : Bool, Hid (r = fitsOk p m → Ending.returned (.bool r) = .returned (.bool (fitsOk p m))) := fun r => Lib.hid fun h => by rw [h]
  clear hrow hrow2 hc1 hc2 hd1 hd2 hp' hcode hvs hm'
  go_enter Try.func27, Try.ntmps27
  go_wp2_with fail
  obtain ⟨w0, g, hg, hW, hx, c0, c1⟩ := new2 w 25 (.slice oa p.regs.length cap) v2
  rw [hW, hg]
  have X := Lib.hid hx
  clear hW hg hx
  have C := rRegions_c p _ w0 (HP.out.ext X.out)
  cases hr : regsOk p.regs
  · rw [hr] at C
    have Hr := Lib.hid hr
    clear hr
    (with_reducible refine C.mono ?_)
    rintro e w1 ⟨rfl, h1⟩
    have X := Lib.hid (X.out.trans h1)
    clear h1 C
    go_wp2
    go_ret
    exact ⟨(Hgoal _).out (by simp [fits_eq, Hr.out]), X.out⟩
  rw [hr] at C
  have Hr := Lib.hid hr
  clear hr
  (with_reducible refine C.mono ?_)
  rintro e w1 ⟨rfl, h1⟩
  have X := Lib.hid (X.out.trans h1)
  have c0 := kept2 h1 c0
  have c1 := kept2 h1 c1
  clear h1 C
  by_cases q0 : m.length = p.regs.length
  rotate_left
  · have q0d : ((m.length : Int) != (p.regs.length : Int)) = true := by simp; omega
    have Q := Lib.hid q0
    clear q0
    go_wp2
    go_ret
    exact ⟨(Hgoal _).out (by simp [fits_eq, Q.out]), X.out⟩
  have q0d : ((m.length : Int) != (p.regs.length : Int)) = false := by simp; omega
  have Q := Lib.hid q0
  have hml : m.length ≤ p.regs.length ∧ p.regs.length ≤ m.length := by omega
  clear q0
  go_wp2_with fail
  go_loopw [5] (fun i wr => ∃ j : Nat, j ≤ p.regs.length ∧ i = .int .i64 j ∧ Ext w1 wr ∧ (List.range j).all (fitOne p m) = true) (fun i _ => p.regs.length - (intOf i).toNat)
  case atStart => exact ⟨0, by omega, rfl, Ext.refl _, by simp⟩
  case round =>
    obtain ⟨j, hj, rfl, hE, hall⟩ := hrel
    have c0 := kept2 hE c0
    have c1 := kept2 hE c1
    have X := Lib.hid (X.out.trans hE)
    have HE := Lib.hid hE
    have Hall := Lib.hid hall
    clear hE hall
    by_cases hlt : j < p.regs.length
    · obtain ⟨e0, e1⟩ := (Hrow.out.ext X.out).reg j hlt
      have hjm : j < m.length := by omega
      have f0 := (Hrow2.out.ext X.out).one j hjm
      obtain ⟨-, oj, capj, bj, uj, hvj, hj1, hj2, -⟩ := Hvs.out j hjm
      rw [hvj] at f0
      clear hvj
      have hlj := len_bd hj1 hj2
      have hlog := logs_ok Hr.out _ (getD_mem hlt)
      have Hs := Lib.hid (take_range (fitOne p m) j p.regs.length hlt Hall.out)
      have Hfalse := Lib.hid (range_false (fitOne p m) j p.regs.length hlt)
      have Hone : Hid (fitOne p m j = decide ((m.getD j default).length = wordsOf (p.regs.getD j default))) := Lib.hid rfl
      have Hw := Lib.hid (words64 hlog.2)
      generalize p.regs.getD j default = r at *
      generalize hmj : (m.getD j default).length = lm at *
      clear hmj hj1 hj2
      have hjm' : (j : Int) < (m.length : Int) := by omega
      have C := rWords_c r hlog.1 hlog.2 wr
      go_wp2_with fail
      (with_reducible refine C.mono ?_)
      clear C
      rintro e' w2 ⟨rfl, h2⟩
      have f0 := h2.kept f0
      have X := Lib.hid (X.out.trans h2)
      have HE := Lib.hid (HE.out.trans h2)
      clear h2 e0 e1
      by_cases hq : lm = wordsOf r
      · have hqd : ((lm : Int) != ((wordsOf r : Nat) : Int)) = false := by simp; omega
        have HQ := Lib.hid hq
        clear hq
        go_wp2
        go_roundw
        case rel => exact ⟨j + 1, by omega, by go_num, HE.out, by rw [Hs.out, Hone.out]; simp [HQ.out]⟩
        case measure => first | (simp [intOf]; done) | (simp [intOf]; omega)
      · have hqd : ((lm : Int) != ((wordsOf r : Nat) : Int)) = true := by simp; omega
        have HQ := Lib.hid hq
        clear hq
        go_wp2
        go_ret
        exact ⟨(Hgoal _).out (by rw [fits_eq, Hfalse.out (by rw [Hone.out]; simp [HQ.out]), Bool.and_false]), X.out⟩
    · have hje : j = p.regs.length := by omega
      subst hje
      have hjm : m.length ≤ p.regs.length := by omega
      go_wp2
      go_ret
      exact ⟨(Hgoal _).out (by simp [fits_eq, Hr.out, Q.out, Hall.out]), X.out⟩
end Go.Proofs.Yteiknefajlocoaa
/- Walk of the law CheckSafe; what a check tells. -/
namespace Go.Proofs.Yteiknefajlocoaa
open Go.ChangeShapes Go.WideShapes Go.ChangeAt Go.RowKit
set_option linter.unusedVariables false
set_option linter.unusedSimpArgs false

theorem told_c (c j : Int) (h : c = 2 ∨ c = 4 ∨ c = 5) (w : World) : Calls Try.prog 25 #[.agg #[.int .i64 c, .int .i64 j]] w fun e w' => e = .returned (.bool true) ∧ Ext w w' := by
  rcases h with rfl | rfl | rfl
  all_goals
    go_enter Try.func25, Try.ntmps25
    go_wp2
    go_ret
    exact ⟨rfl, (Ext.refl _).alloc _⟩
theorem fault_code {p : LProg} {T : Tab} : ∀ (n k : Nat), (faultFrom p T n k).1 = 0 ∨ (faultFrom p T n k).1 = 4 ∨ (faultFrom p T n k).1 = 5
  | 0, k => .inl rfl
  | n + 1, k => by
    rw [faultFrom]
    split
    · exact fault_code n (k + 1)
    · split
      · exact .inr (.inl rfl)
      · split
        · exact .inr (.inr rfl)
        · exact fault_code n (k + 1)
/-- what a check tells: a fault of three; or none, and the program is sound -/
theorem check_told {p : LProg} {v : Value} {w : World} (hp : ProgAt w v p) {F : Int × Nat} (h1 : mayOk p = true → ∃ T, Least p T ∧ F = faultOf p T) (h2 : mayOk p = false → F = (2, 0)) :
    (F.1 = 2 ∨ F.1 = 4 ∨ F.1 = 5) ∨ (F.1 = 0 ∧ mayOk p = true ∧ ∃ T, Sound p T ∧ Least p T ∧ F = faultOf p T) := by
  cases hm : mayOk p with
  | false => left; left; rw [h2 hm]
  | true =>
    obtain ⟨T, hL, hF⟩ := h1 hm
    rcases fault_code (p := p) (T := T) p.code.length 0 with h | h | h
    · right
      have h0 : (faultOf p T).1 = 0 := h
      refine ⟨by rw [hF]; exact h0, rfl, T, ⟨hm, fun i hi => ?_, hL.post, h0⟩, hL, hF⟩
      obtain ⟨v1, v2, rfl, -, hc⟩ := hp
      exact (hc.1 i hi).2.2.2.2
    · left; right; left; rw [hF]; exact h
    · left; right; right; rw [hF]; exact h
theorem mem_64 {w : World} {vm : Value} {m : List (List Int)} (hm : MemAt w vm m) : ∀ x ∈ m.flatten, R64 x := by
  obtain ⟨oa, cap, b, o, rfl, hc1, hc2, vs0, hrow, hin⟩ := hm
  intro x hx
  obtain ⟨l, hl, hxl⟩ := List.mem_flatten.1 hx
  obtain ⟨i, hi, rfl⟩ := List.getElem_of_mem hl
  have := (hin i hi).1
  simp only [List.getD_eq_getElem?_getD, List.getElem?_eq_getElem hi, Option.getD_some] at this
  exact this x hxl
theorem shown_parts' {w : World} {v : Value} {fin value : Int} {steps : Nat} {seen : List LSee} {mem : List (List Int)} (h : ShownAt w v fin value steps seen mem) :
    ∃ a c b d, v = .agg #[.int .i64 fin, .int .i64 value, .int .i64 steps, .slice a seen.length c, .slice b mem.length d] := by
  obtain ⟨vs, vm, rfl, ⟨oa, cap, b, o, rfl, -⟩, ⟨ob, capb, b2, o2, rfl, -⟩⟩ := h
  exact ⟨_, _, _, _, rfl⟩
set_option maxRecDepth 100000 in
set_option maxHeartbeats 4000000 in
theorem checkSafe_walk {p : LProg} {v : Value} {m : List (List Int)} {vm : Value} {w : World} (hp : ProgAt w v p) (hm : MemAt w vm m) (fuel : Int) (hf : R64 fuel) :
    Calls Try.prog 4 #[v, vm, .int .i64 fuel] w fun e w' => e = .returned (.bool true) ∧ Ext w w' := by
  have HP := Lib.hid hp
  have HM := Lib.hid hm
  have Hf := Lib.hid hf
  obtain ⟨a0, a1, a2, b0, b1, b2, rfl⟩ := prog_sl hp
  clear hp hm hf
  go_enter Try.func4, Try.ntmps4
  go_wp2_with fail
  obtain ⟨W, gp, hg, hW, hx, bA⟩ := block1 w #[.slice a0 a1 a2, .slice b0 b1 b2] 25
  rw [hW, hg]
  have X := Lib.hid hx
  clear hW hg hx
  have C := check_c p _ W (HP.out.ext X.out)
  (with_reducible refine C.mono ?_)
  clear C
  rintro e w1 ⟨F, rfl, hx, h1, h2⟩
  have X := Lib.hid (X.out.trans hx)
  have bA := bA.ext hx
  have Ht := Lib.hid (check_told HP.out h1 h2)
  have c0 : w1.cell? ⟨gp, 0, none⟩ = some (.slice a0 a1 a2) := by rw [bA.cell]; rfl
  have c1 : w1.cell? ⟨gp, 1, none⟩ = some (.slice b0 b1 b2) := by rw [bA.cell]; rfl
  have hgpl := bA.lt
  clear hx h1 h2
  obtain ⟨F1, F2⟩ := F
  by_cases h0 : F1 = 0
  · subst h0
    have hs : mayOk p = true ∧ ∃ T, Sound p T := by
      rcases Ht.out with h | ⟨-, h, T, h', -⟩
      · simp at h
      · exact ⟨h, T, h'⟩
    obtain ⟨hmay, T, hT⟩ := hs
    have HT := Lib.hid hT
    have Hmay := Lib.hid hmay
    clear hT hmay Ht
    go_wp2_with fail
    obtain ⟨w2, gf, hg, hW, hx, bF⟩ := block1 w1 #[.int .i64 0, .int .i64 F2] 28
    rw [hW]
    have X := Lib.hid (X.out.trans hx)
    have bA := bA.ext hx
    have c0 := hx.kept c0
    have c1 := hx.kept c1
    have hgpl := bA.lt
    clear hW hg hx
    have C := rMay_c p _ w2 (HP.out.ext X.out)
    rw [Hmay.out] at C
    (with_reducible refine C.mono ?_)
    clear C
    rintro e w3 ⟨rfl, hx⟩
    have X := Lib.hid (X.out.trans hx)
    have c0 := hx.kept c0
    have c1 := hx.kept c1
    have bA := bA.ext hx
    have hgpl := bA.lt
    clear hx
    go_wp2_with fail
    have C := rFits_c p _ m vm w3 (HP.out.ext X.out) (HM.out.ext X.out)
    (with_reducible refine C.mono ?_)
    clear C
    rintro e w4 ⟨rfl, hx⟩
    have X := Lib.hid (X.out.trans hx)
    have c0 := hx.kept c0
    have c1 := hx.kept c1
    have bA := bA.ext hx
    have hgpl := bA.lt
    clear hx
    cases hfit : fitsOk p m
    · go_wp2
      go_ret
      exact ⟨rfl, X.out⟩
    · have Hfit := Lib.hid hfit
      clear hfit
      by_cases hfu : 4000 < fuel
      · have hd : decide ((4000 : Int) < fuel) = true := by simpa using hfu
        clear hfu
        go_wp2
        go_ret
        exact ⟨rfl, X.out⟩
      · have hd : decide ((4000 : Int) < fuel) = false := by simpa using hfu
        have Hfu := Lib.hid (show fuel ≤ 40000 by omega)
        clear hfu
        go_wp2_with fail
        have C := rPlay_c p m fuel _ vm w4 (HP.out.ext X.out) (HM.out.ext X.out) (may_hard Hmay.out) Hfit.out Hfu.out Hf.out
        (with_reducible refine C.mono ?_)
        clear C
        rintro e w5 ⟨u, rfl, hS, hx⟩
        have hne := check_safe HT.out (flat_total Hfit.out) (mem_64 HM.out) fuel.toNat
        obtain ⟨s1, s2, s3, s4, rfl⟩ := shown_parts' hS
        have X := Lib.hid (X.out.trans hx)
        generalize runM p fuel.toNat (start m.flatten) = R at *
        have hq : (R.fin != (2 : Int)) = true := by simpa using hne
        clear hS hx hne
        go_wp2
        go_ret
        exact ⟨rfl, X.out.alloc _⟩
  · have hF : F1 = 2 ∨ F1 = 4 ∨ F1 = 5 := by
      rcases Ht.out with h | ⟨h, -⟩
      · exact h
      · exact absurd h h0
    have hq : (F1 != (0 : Int)) = true := by simpa using h0
    clear h0
    have C0 := Lib.hid (told_c F1 F2 hF)
    clear hF Ht
    go_wp2_with fail
    obtain ⟨w2, gf, hg, hW, hx, bF⟩ := block1 w1 #[.int .i64 F1, .int .i64 F2] 28
    rw [hW]
    have X := Lib.hid (X.out.trans hx)
    (with_reducible refine (C0.out w2).mono ?_)
    rintro e w3 ⟨rfl, hx2⟩
    have X := Lib.hid (X.out.trans hx2)
    clear hx2 hx hW hg
    go_wp2
    go_ret
    exact ⟨rfl, X.out⟩
end Go.Proofs.Yteiknefajlocoaa
/- Arguments opened: programs, memories, regions, words, scripts. (open_slice_fields: the kit's own lemma, copied out of howto/extra-structs.md as that page asks.) -/
namespace Go.Proofs.Yteiknefajlocoaa
open Go.ChangeShapes Go.WideShapes Go.ChangeAt Go.RowKit Go.Joins Go.Deep
set_option linter.unusedVariables false
set_option linter.unusedSimpArgs false

section
variable {H : Type} {enc : TypeId × Value → H} {P : Program} {w : World} {base : Nat} {spare : Nat → Bool} {held : Bool}
theorem open_slice_fields {t e : TypeId} {fs : Array Field} {fuel : Nat} {cs : List Value} {x : DataW H × List MemPlace} (ht : P.underlying t = some (.slice e)) (he : P.underlying e = some (.struct fs))
    (hone : oneCellFields P fs = true) (hC : P.cellsOf e = fs.size) (h : DataW.trod enc P w base spare held fuel t cs = some x) :
    (cs = [.slice none 0 0] ∧ x = (.nil, [])) ∨
    ∃ (a : Addr) (len cap m : Nat), cs = [.slice (some a) len cap] ∧ base ≤ a.block ∧ len ≤ cap ∧ cap ≤ maxLen ∧ len ≤ m ∧
      ∀ i, i < m → ∃ (ys : List (DataW H × List MemPlace)) (n : Nat), ys.length = fs.size ∧
        ∀ (j : Nat) (f : Field), fs[j]? = some f → ∃ (v : Value) (y : DataW H × List MemPlace), w.cell? (a.add (i * fs.size + j)) = some v ∧ ys[j]? = some y ∧ DataW.trod enc P w base spare held n f.type [v] = some y := by
  rcases open_slice ht h with h0 | ⟨a, len, cap, m, n, D, Pl, hcs, hb, hl, hm, hmm, hx, hi⟩
  · exact .inl h0
  · refine .inr ⟨a, len, cap, m, hcs, hb, hl, hm, by rw [hmm]; split <;> omega, fun i him => ?_⟩
    obtain ⟨cs', hc, ht'⟩ := hi i him
    rw [hC] at hc
    obtain ⟨ys, n', hn', hy, hlen, hyl, hf⟩ := DataW.trod_struct he ht'
    obtain ⟨_, hcl, hat⟩ := World.cells?_some hc
    refine ⟨ys, n', hyl, fun j f hj => ?_⟩
    obtain ⟨ho, hk⟩ := hone_of hone j f hj
    have hjl : j < fs.size := (Array.getElem?_eq_some_iff.1 hj).1
    have hcell := hat j hjl
    have hv : cs'[j]? = some (cs'[j]'(by omega)) := List.getElem?_eq_getElem (by omega)
    have h1 := hf j f hj
    rw [ho, hk] at h1
    have hone' : (cs'.drop j).take 1 = [cs'[j]'(by omega)] := by
      rw [List.drop_eq_getElem_cons (by omega)]
      rfl
    rw [hone'] at h1
    have hys : ys[j]? = some (ys[j]'(by omega)) := List.getElem?_eq_getElem (by omega)
    refine ⟨_, _, ?_, hys, h1.trans hys⟩
    rw [← Go.Deep.add_add, hcell, hv]
theorem spot_none {a : Addr} {v : Value} (h : w.cell? a = some v) : a = ⟨a.block, a.off, none⟩ := by
  obtain ⟨b, o, s⟩ := a
  cases s with
  | none => rfl
  | some s =>
    exfalso
    unfold World.cell? at h
    cases hb : w.heap[b]? with
    | none => rw [hb] at h; simp at h
    | some ob => rw [hb] at h; cases ob <;> simp at h
theorem add_none (b o n : Nat) : Addr.add ⟨b, o, none⟩ n = ⟨b, o + n, none⟩ := by
  unfold Addr.add
  split
  · subst_vars; rfl
  · rfl
/-- a row of elements that read as a list's -/
theorem rows_of {α : Type} [Inhabited α] {a : Addr} {len c : Nat} {p : α → Prop} {f : α → Nat → Value} (hc : 0 < c) (h : ∀ i, i < len → ∃ x : α, p x ∧ ∀ j, j < c → w.cell? (a.add (i * c + j)) = some (f x j)) :
    ∃ l : List α, l.length = len ∧ (∀ x ∈ l, p x) ∧ ∃ b o, Rows w (some a) b o len c fun i => f (l.getD i default) := by
  obtain ⟨F, hF⟩ := choose_lt (p := fun i x => p x ∧ ∀ j, j < c → w.cell? (a.add (i * c + j)) = some (f x j)) h
  refine ⟨(List.range len).map F, by simp, fun x hx => ?_, a.block, a.off, ?_⟩
  · simp only [List.mem_map, List.mem_range] at hx
    obtain ⟨i, hi, rfl⟩ := hx
    exact (hF i hi).1
  · by_cases h0 : 0 < len
    · have hs := (hF 0 h0).2 0 hc
      have e0 : a.add (0 * c + 0) = a := by unfold Addr.add; simp
      rw [e0] at hs
      have ea := spot_none hs
      refine ⟨fun _ => by rw [← ea], fun i j hi hj => ?_⟩
      have := (hF i hi).2 j hj
      rw [ea, add_none] at this
      have eg : ((List.range len).map F).getD i default = F i := by simp [hi]
      rw [eg, ← this, Nat.add_assoc]
    · exact ⟨fun h => absurd h h0, fun i j hi hj => by omega⟩
theorem rows_nil (c : Nat) (f : Nat → Nat → Value) : Rows w none 0 0 0 c f := ⟨fun h => by omega, fun i j hi hj => by omega⟩
end
section
variable {H : Type} {enc : TypeId × Value → H} {W : World} {base : Nat} {sp : Nat → Bool} {held : Bool}
theorem r64_of {a : Int} (h : (Lit.int .i64 a).wf = true) : R64 a := bounds_i64 h
theorem trod_regs {n : Nat} {v : Value} {x : DataW H × List MemPlace} (h : DataW.trod enc Try.prog W base sp held n 22 [v] = some x) : ∃ l, RegsAt W v l := by
  rcases open_slice_fields Try.underlying22 Try.underlying68 (by kernel_rfl) (by kernel_rfl) h with ⟨hv, -⟩ | ⟨a, len, cap, m, hv, -, h1, h2, h3, hi⟩
  · simp only [List.cons.injEq, and_true] at hv
    subst hv
    exact ⟨[], by simp, none, 0, 0, 0, rfl, by simp, by decide, rows_nil _ _⟩
  · simp only [List.cons.injEq, and_true] at hv
    subst hv
    obtain ⟨l, e1, e2, b, o, e3⟩ := rows_of (α := LReg) (w := W) (a := a) (len := len) (c := 2) (p := fun r => R64 r.log) (f := regCell) (by omega) (fun i hil => by
      obtain ⟨ys, k, -, hf⟩ := hi i (by omega)
      obtain ⟨v0, y0, c0, -, t0⟩ := hf 0 _ rfl
      obtain ⟨v1, y1, c1, -, t1⟩ := hf 1 _ rfl
      obtain ⟨z0, q0, -, wf0⟩ := DataW.trod_int Try.underlying3 t0
      obtain ⟨z1, q1, -⟩ := DataW.trod_bool Try.underlying4 t1
      simp only [List.cons.injEq, and_true] at q0 q1
      subst q0 q1
      refine ⟨⟨z0, z1⟩, r64_of wf0, fun j hj => ?_⟩
      rcases (show j = 0 ∨ j = 1 by omega) with rfl | rfl
      · exact c0
      · exact c1)
    subst e1
    exact ⟨l, e2, some a, cap, b, o, rfl, h1, h2, e3⟩
theorem trod_code {n : Nat} {v : Value} {x : DataW H × List MemPlace} (h : DataW.trod enc Try.prog W base sp held n 23 [v] = some x) : ∃ l, CodeAt W v l := by
  rcases open_slice_fields Try.underlying23 Try.underlying70 (by kernel_rfl) (by kernel_rfl) h with ⟨hv, -⟩ | ⟨a, len, cap, m, hv, -, h1, h2, h3, hi⟩
  · simp only [List.cons.injEq, and_true] at hv
    subst hv
    exact ⟨[], by simp, none, 0, 0, 0, rfl, by simp, by decide, rows_nil _ _⟩
  · simp only [List.cons.injEq, and_true] at hv
    subst hv
    obtain ⟨l, e1, e2, b, o, e3⟩ := rows_of (α := LIns) (w := W) (a := a) (len := len) (c := 5) (p := LIns.fits) (f := insCell) (by omega) (fun i hil => by
      obtain ⟨ys, k, -, hf⟩ := hi i (by omega)
      obtain ⟨v0, y0, c0, -, t0⟩ := hf 0 _ rfl
      obtain ⟨v1, y1, c1, -, t1⟩ := hf 1 _ rfl
      obtain ⟨v2, y2, c2, -, t2⟩ := hf 2 _ rfl
      obtain ⟨v3, y3, c3, -, t3⟩ := hf 3 _ rfl
      obtain ⟨v4, y4, c4, -, t4⟩ := hf 4 _ rfl
      obtain ⟨z0, q0, -, wf0⟩ := DataW.trod_int Try.underlying3 t0
      obtain ⟨z1, q1, -, wf1⟩ := DataW.trod_int Try.underlying3 t1
      obtain ⟨z2, q2, -, wf2⟩ := DataW.trod_int Try.underlying3 t2
      obtain ⟨z3, q3, -, wf3⟩ := DataW.trod_int Try.underlying3 t3
      obtain ⟨z4, q4, -, wf4⟩ := DataW.trod_int Try.underlying2 t4
      simp only [List.cons.injEq, and_true] at q0 q1 q2 q3 q4
      subst q0 q1 q2 q3 q4
      refine ⟨⟨z0, z1, z2, z3, z4⟩, ⟨r64_of wf0, r64_of wf1, r64_of wf2, r64_of wf3, r64_of wf4⟩, fun j hj => ?_⟩
      rcases (show j = 0 ∨ j = 1 ∨ j = 2 ∨ j = 3 ∨ j = 4 by omega) with rfl | rfl | rfl | rfl | rfl
      · exact c0
      · exact c1
      · exact c2
      · exact c3
      · exact c4)
    subst e1
    exact ⟨l, e2, some a, cap, b, o, rfl, h1, h2, e3⟩
theorem trod_ints {T E : TypeId} (hT : Try.prog.underlying T = some (.slice E)) (hE : Try.prog.underlying E = some (.int .i64)) (hC : Try.prog.cellsOf E = 1) {n : Nat} {v : Value} {x : DataW H × List MemPlace} (h : DataW.trod enc Try.prog W base sp held n T [v] = some x) : ∃ l, IntsAt W v l := by
  rcases open_slice1 hT hC h with ⟨hv, -⟩ | ⟨a, len, cap, m, k, V, D, Pl, hv, -, h1, h2, h3, -, hi⟩
  · simp only [List.cons.injEq, and_true] at hv
    subst hv
    exact ⟨[], by simp, none, 0, 0, 0, rfl, by simp, by decide, rows_nil _ _⟩
  · simp only [List.cons.injEq, and_true] at hv
    subst hv
    obtain ⟨l, e1, e2, b, o, e3⟩ := rows_of (α := Int) (w := W) (a := a) (len := len) (c := 1) (p := R64) (f := fun x _ => .int .i64 x) (by omega) (fun i hil => by
      obtain ⟨c0, t0⟩ := hi i (by rw [h3]; split <;> omega)
      obtain ⟨z0, q0, -, wf0⟩ := DataW.trod_int hE t0
      simp only [List.cons.injEq, and_true] at q0
      rw [q0] at c0
      refine ⟨z0, r64_of wf0, fun j hj => ?_⟩
      obtain rfl : j = 0 := by omega
      simpa using c0)
    subst e1
    exact ⟨l, e2, some a, cap, b, o, rfl, h1, h2, e3⟩
theorem trod_mem {n : Nat} {v : Value} {x : DataW H × List MemPlace} (h : DataW.trod enc Try.prog W base sp held n 31 [v] = some x) : ∃ m, MemAt W v m := by
  rcases open_slice1 Try.underlying31 (by kernel_rfl) h with ⟨hv, -⟩ | ⟨a, len, cap, m, k, V, D, Pl, hv, -, h1, h2, h3, -, hi⟩
  · simp only [List.cons.injEq, and_true] at hv
    subst hv
    exact ⟨[], none, 0, 0, 0, rfl, by simp, by decide, fun _ => undef, rows_nil _ _, fun i hi => by simp at hi⟩
  · simp only [List.cons.injEq, and_true] at hv
    subst hv
    obtain ⟨l, e1, e2, b, o, e3⟩ := rows_of (α := Value) (w := W) (a := a) (len := len) (c := 1) (p := fun x => ∃ l, IntsAt W x l) (f := fun x _ => x) (by omega) (fun i hil => by
      obtain ⟨c0, t0⟩ := hi i (by rw [h3]; split <;> omega)
      refine ⟨V i, trod_ints Try.underlying71 Try.underlying2 (by kernel_rfl) t0, fun j hj => ?_⟩
      obtain rfl : j = 0 := by omega
      simpa using c0)
    subst e1
    obtain ⟨F, hF⟩ := choose_lt (α := List Int) (n := l.length) (p := fun i x => IntsAt W (l.getD i default) x) (fun i hi => e2 _ (by simp [hi]))
    refine ⟨(List.range l.length).map F, some a, cap, b, o, by simp, by simpa using h1, h2, fun i => l.getD i default, by simpa using e3, fun i hi => ?_⟩
    have hi' : i < l.length := by simpa using hi
    have : ((List.range l.length).map F).getD i default = F i := by simp [hi']
    rw [this]
    exact hF i hi'
set_option maxRecDepth 100000 in
theorem open_prog {b0 : Nat} {r : Reach} {v : Value} {d : DataW H} {p : List MemPlace}
    (hv : Value.okWide Try.prog W r b0 25 v) (h : DataW.Trod enc Try.prog W base sp held 25 v d p) : ∃ q, ProgAt W v q := by
  obtain ⟨c0, c1, y0, y1, m, rfl, rfl, rfl, hy0, hy1⟩ := open_agg2 Try.underlying25 (by kernel_rfl) (by kernel_rfl) hv h
  obtain ⟨l, h0⟩ := trod_regs hy0
  obtain ⟨k, h1⟩ := trod_code hy1
  exact ⟨⟨l, k⟩, c0, c1, rfl, h0, h1⟩
set_option maxRecDepth 100000 in
theorem open_mem {b0 : Nat} {r : Reach} {v : Value} {d : DataW H} {p : List MemPlace}
    (hv : Value.okWide Try.prog W r b0 31 v) (h : DataW.Trod enc Try.prog W base sp held 31 v d p) : ∃ q, MemAt W v q := by
  obtain ⟨fuel, hf⟩ := h
  obtain ⟨a, len, cap, rfl⟩ := okWide_slice Try.underlying31 hv
  exact trod_mem hf
set_option maxRecDepth 100000 in
theorem open_regs {b0 : Nat} {r : Reach} {v : Value} {d : DataW H} {p : List MemPlace}
    (hv : Value.okWide Try.prog W r b0 22 v) (h : DataW.Trod enc Try.prog W base sp held 22 v d p) : ∃ q, RegsAt W v q := by
  obtain ⟨fuel, hf⟩ := h
  obtain ⟨a, len, cap, rfl⟩ := okWide_slice Try.underlying22 hv
  exact trod_regs hf
end
end Go.Proofs.Yteiknefajlocoaa
/- Three facts of the whole program, each by itself: they are dear (each some 45 s and 8 GB), and the same for every statement. -/
namespace Go.Proofs.Yteiknefajlocoaa
open Go
theorem bar_enter : Try.pinned.checked.prog.mayEnter = true := by decide +kernel
theorem bar_lifts : Try.pinned.checked.prog.liftsFinal = false := by decide +kernel
theorem bar_make : (Try.pinned.checked.prog.make == some Make.cut) = true := by decide +kernel
end Go.Proofs.Yteiknefajlocoaa
