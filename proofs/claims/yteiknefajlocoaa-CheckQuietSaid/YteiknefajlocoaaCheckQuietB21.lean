/- Laid together from: FormS2, FormF, Ref3e, PubW. -/
import Derived.Test.YteiknefajlocoaaCheckQuietB20
import Derived.Test.YteiknefajlocoaaCheckQuietB17
import Derived.Test.YteiknefajlocoaaCheckQuietB15
import Derived.Test.YteiknefajlocoaaCheckQuietB8
import Derived.Test.YteiknefajlocoaaCheckQuietB10

/- Walks of the reference's Is, May, Hard (chapter 2). -/
namespace Go.Proofs.Yteiknefajlocoaa
open Go.ChangeShapes Go.WideShapes Go.ChangeAt Go.RowKit
set_option linter.unusedVariables false
set_option linter.unusedSimpArgs false

theorem regsOk_all {l : List LReg} (h : regsOk l = true) : ∀ r ∈ l, 0 ≤ r.log ∧ r.log ≤ 6 := by
  intro r hr
  simp only [regsOk, Bool.and_eq_true, List.all_eq_true] at h
  have := h.1 r hr
  simpa [regOk] using this
set_option maxHeartbeats 4000000 in
theorem is_c (p : LProg) (v : Value) (most R : Int) (hm : R64 most) (fR : R64 R) (w : World) (hp : ProgAt w v p) :
    Calls Try.prog 59 #[v, .int .i64 most, .int .i64 R] w fun e w' => e = .returned (.bool (progOk p most R)) ∧ Ext w w' := by
  have hp' := hp
  obtain ⟨v1, v2, rfl, ⟨hb, oa, cap, b, o, rfl, hc1, hc2, hrow⟩, ⟨hf, ob, capb, b2, o2, rfl, hd1, hd2, hrow2⟩⟩ := hp
  have HP := Lib.hid hp'
  have hm0 := hm.1
  have hm1 := hm.2
  have hlen := len_bd hc1 hc2
  have hlen2 := len_bd hd1 hd2
  have hix := index_code (cap := capb) hrow2.at_
  have Hrow2 := Lib.hid hrow2
  clear hrow hrow2 hc1 hc2 hd1 hd2 hp'
  go_enter Try.func59, Try.ntmps59
  go_wp2_with fail
  obtain ⟨w0, g, hg, hW, hx, c0, c1⟩ := new2 w 25 (.slice oa p.regs.length cap) (.slice ob p.code.length capb)
  rw [hW, hg]
  have X := Lib.hid hx
  clear hW hg hx
  have C := rRegions_c p _ w0 (HP.out.ext X.out)
  have Hgoal : ∀ r : Bool, Hid (r = progOk p most R → Ending.returned (.bool r) = .returned (.bool (progOk p most R))) := fun r => Lib.hid fun h => by rw [h]
  cases hr : regsOk p.regs
  · rw [hr] at C
    have Hr := Lib.hid hr
    clear hr
    (with_reducible refine C.mono ?_)
    rintro e w1 ⟨rfl, h1⟩
    have X := Lib.hid (X.out.trans h1)
    clear h1 C
    go_wp2
    go_ret
    exact ⟨(Hgoal _).out (by simp [progOk, Hr.out]), X.out⟩
  rw [hr] at C
  have Hr := Lib.hid hr
  clear hr
  (with_reducible refine C.mono ?_)
  rintro e w1 ⟨rfl, h1⟩
  have X := Lib.hid (X.out.trans h1)
  have c0 := kept2 h1 c0
  have c1 := kept2 h1 c1
  clear h1 C
  by_cases q0 : (p.code.length : Int) < 1
  · go_wp2
    go_ret
    exact ⟨(Hgoal _).out (by
      have : ¬ 1 ≤ p.code.length := by omega
      simp [progOk, this]), X.out⟩
  have q0d : decide ((p.code.length : Int) < 1) = false := by simpa using q0
  by_cases q1 : most < (p.code.length : Int)
  · go_wp2
    go_ret
    exact ⟨(Hgoal _).out (by
      have : ¬ (p.code.length : Int) ≤ most := by omega
      simp [progOk, this]), X.out⟩
  have q1d : decide (most < (p.code.length : Int)) = false := by simpa using q1
  go_wp2_with fail
  go_loopw [7] (fun i wr => ∃ j : Nat, j ≤ p.code.length ∧ i = .int .i64 j ∧ Ext w1 wr ∧ (p.code.take j).all (insOk p R) = true) (fun i _ => p.code.length - (intOf i).toNat)
  case atStart => exact ⟨0, by omega, rfl, Ext.refl _, by simp⟩
  case round =>
    obtain ⟨j, hj, rfl, hE, hall⟩ := hrel
    have c0 := kept2 hE c0
    have c1 := kept2 hE c1
    have X := Lib.hid (X.out.trans hE)
    have HE := Lib.hid hE
    have Hall := Lib.hid hall
    clear hE hall
    by_cases hlt : j < p.code.length
    · obtain ⟨e0, e1, e2, e3, e4⟩ := (Hrow2.out.ext X.out).ins j hlt
      have hfi := hf _ (getD_mem hlt)
      have Hs := Lib.hid (take_all (insOk p R) p.code j default hlt Hall.out)
      have Hfalse := Lib.hid (all_false (insOk p R) p.code j default hlt)
      generalize p.code.getD j default = i at *
      have HC : ∀ W, Ext wr W → Hid (Calls Try.prog 100 #[.agg #[.slice oa p.regs.length cap, .slice ob p.code.length capb], .agg #[.int .i64 i.op, .int .i64 i.a, .int .i64 i.b, .int .i64 i.c, .int .i64 i.n], .int .i64 R] W fun e w' => e = .returned (.bool (insOk p R i)) ∧ Ext W w') := fun W h => Lib.hid (rIns_c p _ R fR i hfi W (HP.out.ext (X.out.trans h)) (regsOk_all Hr.out))
      have k0 : ∀ W, Ext wr W → W.cell? ⟨g, 0, none⟩ = some (.slice oa p.regs.length cap) := fun _ h => h.kept c0.1
      have k1 : ∀ W, Ext wr W → W.cell? ⟨g, 1, none⟩ = some (.slice ob p.code.length capb) := fun _ h => h.kept c1.1
      have m0 : ∀ W, Ext wr W → W.cell? ⟨b2, o2 + j * 5, none⟩ = some (.int .i64 i.op) := fun _ h => h.kept e0
      have m1 : ∀ W, Ext wr W → W.cell? ⟨b2, o2 + j * 5 + 1, none⟩ = some (.int .i64 i.a) := fun _ h => h.kept e1
      have m2 : ∀ W, Ext wr W → W.cell? ⟨b2, o2 + j * 5 + 2, none⟩ = some (.int .i64 i.b) := fun _ h => h.kept e2
      have m3 : ∀ W, Ext wr W → W.cell? ⟨b2, o2 + j * 5 + 3, none⟩ = some (.int .i64 i.c) := fun _ h => h.kept e3
      have m4 : ∀ W, Ext wr W → W.cell? ⟨b2, o2 + j * 5 + 4, none⟩ = some (.int .i64 i.n) := fun _ h => h.kept e4
      clear e0 e1 e2 e3 e4
      go_upto_region 6 with fail
      refine region_calm 9 (by kernel_rfl) (by kernel_rfl) ?_
      simp only [List.take_succ_cons, List.take_zero, List.drop_succ_cons, List.drop_zero]
      repeat (first | (refine calm_fresh ?_ ?_ (fun wc hE => ?_) ?_; (decide); rfl; (focus (go_simp; done)); go_simp) | (refine calm_value ?_ ?_ ?_; (decide); (first | rfl | (focus (go_simp; done))); apply Exists.intro; refine ⟨fun wc hE => ?_, ?_⟩; (go_simp; exact rfl); go_simp) | (refine calm_call ?_ ?_ ?_; (decide); (first | rfl | (focus (go_simp; done))); apply Exists.intro; refine ⟨fun wc hE => ?_, ?_⟩; (go_simp; (first | (with_reducible exact calm_enter ((HC _ ‹_›).out)))); go_simp) | (refine calm_skip ?_ ?_ ?_; (decide); (focus (go_simp; done)); go_simp))
      refine calm_nil ?_
      intro wx hx
      have HX := Lib.hid (HE.out.trans hx)
      have X := Lib.hid (X.out.trans hx)
      clear hx k0 k1 m0 m1 m2 m3 m4 HC
      cases hi : insOk p R i
      · have Hi := Lib.hid hi
        clear hi
        go_wp2
        go_ret
        exact ⟨(Hgoal _).out (by simp only [progOk, Hfalse.out Hi.out, Bool.and_false]), X.out⟩
      · rw [hi] at Hs
        clear hi
        go_wp2
        go_roundw
        case rel => exact ⟨j + 1, by omega, by go_num, HX.out, Hs.out⟩
        case measure => first | (simp [intOf]; done) | (simp [intOf]; omega)
    · have hje : j = p.code.length := by omega
      subst hje
      go_wp2
      go_ret
      refine ⟨(Hgoal _).out ?_, X.out⟩
      have h := Hall.out
      rw [List.take_length] at h
      have h1 : 1 ≤ p.code.length := by omega
      have h2 : (p.code.length : Int) ≤ most := by omega
      simp only [progOk, Hr.out, h, h1, h2, decide_true, Bool.and_true]
theorem rMay_c (p : LProg) (v : Value) (w : World) (hp : ProgAt w v p) :
    Calls Try.prog 26 #[v] w fun e w' => e = .returned (.bool (mayOk p)) ∧ Ext w w' := by
  have HP := Lib.hid hp
  obtain ⟨v1, v2, rfl, -⟩ := hp
  go_enter Try.func26, Try.ntmps26
  go_wp2_with fail
  have hA := (Ext.refl w).alloc (.cells #[v1, v2] 25)
  have C := is_c p _ 200 8 (by unfold R64; omega) (by unfold R64; omega) _ (HP.out.ext hA)
  (with_reducible refine C.mono ?_)
  rintro e w1 ⟨rfl, hx⟩
  have HX := Lib.hid (hA.trans hx)
  clear hx hA C
  go_wp2
  go_ret
  exact ⟨rfl, HX.out⟩
theorem rHard_c (p : LProg) (v : Value) (w : World) (hp : ProgAt w v p) :
    Calls Try.prog 37 #[v] w fun e w' => e = .returned (.bool (hardOk p)) ∧ Ext w w' := by
  have HP := Lib.hid hp
  obtain ⟨v1, v2, rfl, -⟩ := hp
  go_enter Try.func37, Try.ntmps37
  go_wp2_with fail
  have hA := (Ext.refl w).alloc (.cells #[v1, v2] 25)
  have C := is_c p _ 8000 10 (by unfold R64; omega) (by unfold R64; omega) _ (HP.out.ext hA)
  (with_reducible refine C.mono ?_)
  rintro e w1 ⟨rfl, hx⟩
  have HX := Lib.hid (hA.trans hx)
  clear hx hA C
  go_wp2
  go_ret
  exact ⟨rfl, HX.out⟩
end Go.Proofs.Yteiknefajlocoaa
/- Walks of Fits, of layout and of the reference. -/
namespace Go.Proofs.Yteiknefajlocoaa
open Go.ChangeShapes Go.WideShapes Go.ChangeAt Go.RowKit
set_option linter.unusedVariables false
set_option linter.unusedSimpArgs false

theorem index_mem {oa : Option Addr} {n b o cap : Nat} (h : 0 < n → oa = some ⟨b, o, none⟩) (W : World) (i : Int) (h0 : 0 ≤ i) (h1 : i < n) :
    (Instr.indexAt 31 (.slice oa n cap) (.int .i64 i)).run Try.prog W = .ok (.pointer (some ⟨b, o + i.toNat, none⟩)) W := by
  obtain rfl := h (by omega)
  have hs : (Try.prog.info? 71).map (·.size) = some 1 := by kernel_rfl
  simp [Instr.indexAt, run_underlying Try.underlying31, asIntOf, h0, h1]
  exact addr_add b o _
def fitOne (p : LProg) (m : List (List Int)) (i : Nat) : Bool := decide ((m.getD i default).length = wordsOf (p.regs.getD i default))
theorem take_range (f : Nat → Bool) (k n : Nat) (hk : k < n) (h : (List.range k).all f = true) : (List.range (k + 1)).all f = f k := by
  rw [List.range_succ, List.all_append, h]; simp
theorem range_false (f : Nat → Bool) (k n : Nat) (hk : k < n) (h : f k = false) : (List.range n).all f = false := by
  rw [List.all_eq_false]; exact ⟨k, List.mem_range.2 hk, by simp [h]⟩
theorem fits_eq (p : LProg) (m : List (List Int)) : fitsOk p m = (regsOk p.regs && decide (m.length = p.regs.length) && (List.range p.regs.length).all (fitOne p m)) := rfl
theorem logs_ok {l : List LReg} (h : regsOk l = true) : ∀ r ∈ l, 0 ≤ r.log ∧ r.log ≤ 6 := by
  intro r hr
  simp only [regsOk, Bool.and_eq_true, List.all_eq_true] at h
  have := h.1 r hr
  simpa [regOk] using this
theorem words64 {r : LReg} (h : r.log ≤ 6) : wordsOf r ≤ 64 := by
  unfold wordsOf
  exact Nat.le_trans (Nat.pow_le_pow_right (by omega) (show r.log.toNat ≤ 6 by omega)) (by decide)
set_option maxHeartbeats 4000000 in
theorem lFits_c (p : LProg) (v : Value) (m : List (List Int)) (vm : Value) (w : World) (hp : ProgAt w v p) (hm : MemAt w vm m) :
    Calls Try.prog 104 #[v, vm] w fun e w' => e = .returned (.bool (fitsOk p m)) ∧ Ext w w' := by
  have hp' := hp
  have hm' := hm
  obtain ⟨v1, v2, rfl, ⟨hb, oa, cap, b, o, rfl, hc1, hc2, hrow⟩, hcode⟩ := hp
  obtain ⟨om, capm, bm, um, rfl, hd1, hd2, vs, hrow2, hvs⟩ := hm
  have HP := Lib.hid hp'
  have hlen := len_bd hc1 hc2
  have hlen2 := len_bd hd1 hd2
  have hix := index_regs (cap := cap) hrow.at_
  have hixm := index_mem (cap := capm) hrow2.at_
  have Hrow := Lib.hid hrow
  have Hrow2 := Lib.hid hrow2
  have Hvs := Lib.hid hvs
  have Hgoal : ∀ r : Bool, Hid (r = fitsOk p m → Ending.returned (.bool r) = .returned (.bool (fitsOk p m))) := fun r => Lib.hid fun h => by rw [h]
  clear hrow hrow2 hc1 hc2 hd1 hd2 hp' hcode hvs hm'
  go_enter Try.func104, Try.ntmps104
  go_wp2_with fail
  obtain ⟨w0, g, hg, hW, hx, c0, c1⟩ := new2 w 25 (.slice oa p.regs.length cap) v2
  rw [hW, hg]
  have X := Lib.hid hx
  clear hW hg hx
  have C := regions_c p _ w0 (HP.out.ext X.out)
  cases hr : regsOk p.regs
  · rw [hr] at C
    have Hr := Lib.hid hr
    clear hr
    (with_reducible refine C.mono ?_)
    rintro e w1 ⟨rfl, h1⟩
    have X := Lib.hid (X.out.trans h1)
    clear h1 C
    go_wp2
    go_ret
    exact ⟨(Hgoal _).out (by simp [fits_eq, Hr.out]), X.out⟩
  rw [hr] at C
  have Hr := Lib.hid hr
  clear hr
  (with_reducible refine C.mono ?_)
  rintro e w1 ⟨rfl, h1⟩
  have X := Lib.hid (X.out.trans h1)
  have c0 := kept2 h1 c0
  have c1 := kept2 h1 c1
  clear h1 C
  by_cases q0 : m.length = p.regs.length
  rotate_left
  · have q0d : ((m.length : Int) != (p.regs.length : Int)) = true := by simp; omega
    have Q := Lib.hid q0
    clear q0
    go_wp2
    go_ret
    exact ⟨(Hgoal _).out (by simp [fits_eq, Q.out]), X.out⟩
  have q0d : ((m.length : Int) != (p.regs.length : Int)) = false := by simp; omega
  have Q := Lib.hid q0
  have hml : m.length ≤ p.regs.length ∧ p.regs.length ≤ m.length := by omega
  clear q0
  go_wp2_with fail
  go_loopw [21] (fun i wr => ∃ j : Nat, j ≤ p.regs.length ∧ i = .int .i64 j ∧ Ext w1 wr ∧ (List.range j).all (fitOne p m) = true) (fun i _ => p.regs.length - (intOf i).toNat)
  case atStart => exact ⟨0, by omega, rfl, Ext.refl _, by simp⟩
  case round =>
    obtain ⟨j, hj, rfl, hE, hall⟩ := hrel
    have c0 := kept2 hE c0
    have c1 := kept2 hE c1
    have X := Lib.hid (X.out.trans hE)
    have HE := Lib.hid hE
    have Hall := Lib.hid hall
    clear hE hall
    by_cases hlt : j < p.regs.length
    · obtain ⟨e0, e1⟩ := (Hrow.out.ext X.out).reg j hlt
      have hjm : j < m.length := by omega
      have f0 := (Hrow2.out.ext X.out).one j hjm
      obtain ⟨-, oj, capj, bj, uj, hvj, hj1, hj2, -⟩ := Hvs.out j hjm
      rw [hvj] at f0
      clear hvj
      have hlj := len_bd hj1 hj2
      have hlog := logs_ok Hr.out _ (getD_mem hlt)
      have Hs := Lib.hid (take_range (fitOne p m) j p.regs.length hlt Hall.out)
      have Hfalse := Lib.hid (range_false (fitOne p m) j p.regs.length hlt)
      have Hone : Hid (fitOne p m j = decide ((m.getD j default).length = wordsOf (p.regs.getD j default))) := Lib.hid rfl
      have Hw := Lib.hid (words64 hlog.2)
      generalize p.regs.getD j default = r at *
      generalize hmj : (m.getD j default).length = lm at *
      clear hmj hj1 hj2
      go_upto_region 6 with fail
      obtain ⟨w2, hw2⟩ : ∃ w2, w2 = wr.alloc (.cells #[.int .i64 r.log, .bool r.secret] 68) := ⟨_, rfl⟩
      have bR : Blk w2 wr.heap.size 68 #[.int .i64 r.log, .bool r.secret] := by rw [hw2]; exact Blk.new wr _ _
      have h2 : Ext wr w2 := by rw [hw2]; exact (Ext.refl wr).alloc _
      rw [← hw2]
      clear hw2
      have r0 : w2.cell? ⟨wr.heap.size, 0, none⟩ = some (.int .i64 r.log) := by rw [bR.cell]; rfl
      have r1 : w2.cell? ⟨wr.heap.size, 1, none⟩ = some (.bool r.secret) := by rw [bR.cell]; rfl
      generalize wr.heap.size = kr at *
      have k0 : ∀ W, Ext w2 W → W.cell? ⟨kr, 0, none⟩ = some (.int .i64 r.log) := fun _ h => h.kept r0
      have k1 : ∀ W, Ext w2 W → W.cell? ⟨kr, 1, none⟩ = some (.bool r.secret) := fun _ h => h.kept r1
      have k2 : ∀ W, Ext w2 W → W.cell? ⟨bm, um + j, none⟩ = some (.slice oj lm capj) := fun _ h => h.kept (h2.kept f0)
      have X := Lib.hid (X.out.trans h2)
      have HE := Lib.hid (HE.out.trans h2)
      have c0 := kept2 h2 c0
      have c1 := kept2 h2 c1
      clear h2 e0 e1 f0 r0 r1 bR
      have hjm' : (j : Int) < (m.length : Int) := by omega
      refine region_calm 8 (by kernel_rfl) (by kernel_rfl) ?_
      simp only [List.take_succ_cons, List.take_zero, List.drop_succ_cons, List.drop_zero]
      repeat (first | (refine calm_fresh ?_ ?_ (fun wc hE => ?_) ?_; (decide); rfl; (focus (go_simp; done)); go_simp) | (refine calm_value ?_ ?_ ?_; (decide); (first | rfl | (focus (go_simp; done))); apply Exists.intro; refine ⟨fun wc hE => ?_, ?_⟩; (go_simp; exact rfl); go_simp) | (refine calm_call ?_ ?_ ?_; (decide); (first | rfl | (focus (go_simp; done))); apply Exists.intro; refine ⟨fun wc hE => ?_, ?_⟩; (go_simp; (first | (with_reducible exact calm_enter (words_c r hlog.1 hlog.2 _)))); go_simp) | (refine calm_skip ?_ ?_ ?_; (decide); (focus (go_simp; done)); go_simp))
      refine calm_nil ?_
      intro wx hx
      have HX := Lib.hid (HE.out.trans hx)
      have X := Lib.hid (X.out.trans hx)
      clear hx k0 k1 k2
      by_cases hq : lm = wordsOf r
      · have hqd : ((lm : Int) != ((wordsOf r : Nat) : Int)) = false := by simp; omega
        have HQ := Lib.hid hq
        clear hq
        go_wp2
        go_roundw
        case rel => exact ⟨j + 1, by omega, by go_num, HX.out, by rw [Hs.out, Hone.out]; simp [HQ.out]⟩
        case measure => first | (simp [intOf]; done) | (simp [intOf]; omega)
      · have hqd : ((lm : Int) != ((wordsOf r : Nat) : Int)) = true := by simp; omega
        have HQ := Lib.hid hq
        clear hq
        go_wp2
        go_ret
        exact ⟨(Hgoal _).out (by rw [fits_eq, Hfalse.out (by rw [Hone.out]; simp [HQ.out]), Bool.and_false]), X.out⟩
    · have hje : j = p.regs.length := by omega
      subst hje
      have hjm : m.length ≤ p.regs.length := by omega
      go_wp2
      go_ret
      exact ⟨(Hgoal _).out (by simp [fits_eq, Hr.out, Q.out, Hall.out]), X.out⟩
set_option maxHeartbeats 4000000 in
theorem rFits_c (p : LProg) (v : Value) (m : List (List Int)) (vm : Value) (w : World) (hp : ProgAt w v p) (hm : MemAt w vm m) :
    Calls Try.prog 27 #[v, vm] w fun e w' => e = .returned (.bool (fitsOk p m)) ∧ Ext w w' := by
  have hp' := hp
  have hm' := hm
  obtain ⟨v1, v2, rfl, ⟨hb, oa, cap, b, o, rfl, hc1, hc2, hrow⟩, hcode⟩ := hp
  obtain ⟨om, capm, bm, um, rfl, hd1, hd2, vs, hrow2, hvs⟩ := hm
  have HP := Lib.hid hp'
  have hlen := len_bd hc1 hc2
  have hlen2 := len_bd hd1 hd2
  have hix := index_regs (cap := cap) hrow.at_
  have hixm := index_mem (cap := capm) hrow2.at_
  have Hrow := Lib.hid hrow
  have Hrow2 := Lib.hid hrow2
  have Hvs := Lib.hid hvs
  have Hgoal : ∀ r : Bool, Hid (r = fitsOk p m → Ending.returned (.bool r) = .returned (.bool (fitsOk p m))) := fun r => Lib.hid fun h => by rw [h]
  clear hrow hrow2 hc1 hc2 hd1 hd2 hp' hcode hvs hm'
  go_enter Try.func27, Try.ntmps27
  go_wp2_with fail
  obtain ⟨w0, g, hg, hW, hx, c0, c1⟩ := new2 w 25 (.slice oa p.regs.length cap) v2
  rw [hW, hg]
  have X := Lib.hid hx
  clear hW hg hx
  have C := rRegions_c p _ w0 (HP.out.ext X.out)
  cases hr : regsOk p.regs
  · rw [hr] at C
    have Hr := Lib.hid hr
    clear hr
    (with_reducible refine C.mono ?_)
    rintro e w1 ⟨rfl, h1⟩
    have X := Lib.hid (X.out.trans h1)
    clear h1 C
    go_wp2
    go_ret
    exact ⟨(Hgoal _).out (by simp [fits_eq, Hr.out]), X.out⟩
  rw [hr] at C
  have Hr := Lib.hid hr
  clear hr
  (with_reducible refine C.mono ?_)
  rintro e w1 ⟨rfl, h1⟩
  have X := Lib.hid (X.out.trans h1)
  have c0 := kept2 h1 c0
  have c1 := kept2 h1 c1
  clear h1 C
  by_cases q0 : m.length = p.regs.length
  rotate_left
  · have q0d : ((m.length : Int) != (p.regs.length : Int)) = true := by simp; omega
    have Q := Lib.hid q0
    clear q0
    go_wp2
    go_ret
    exact ⟨(Hgoal _).out (by simp [fits_eq, Q.out]), X.out⟩
  have q0d : ((m.length : Int) != (p.regs.length : Int)) = false := by simp; omega
  have Q := Lib.hid q0
  have hml : m.length ≤ p.regs.length ∧ p.regs.length ≤ m.length := by omega
  clear q0
  go_wp2_with fail
  go_loopw [5] (fun i wr => ∃ j : Nat, j ≤ p.regs.length ∧ i = .int .i64 j ∧ Ext w1 wr ∧ (List.range j).all (fitOne p m) = true) (fun i _ => p.regs.length - (intOf i).toNat)
  case atStart => exact ⟨0, by omega, rfl, Ext.refl _, by simp⟩
  case round =>
    obtain ⟨j, hj, rfl, hE, hall⟩ := hrel
    have c0 := kept2 hE c0
    have c1 := kept2 hE c1
    have X := Lib.hid (X.out.trans hE)
    have HE := Lib.hid hE
    have Hall := Lib.hid hall
    clear hE hall
    by_cases hlt : j < p.regs.length
    · obtain ⟨e0, e1⟩ := (Hrow.out.ext X.out).reg j hlt
      have hjm : j < m.length := by omega
      have f0 := (Hrow2.out.ext X.out).one j hjm
      obtain ⟨-, oj, capj, bj, uj, hvj, hj1, hj2, -⟩ := Hvs.out j hjm
      rw [hvj] at f0
      clear hvj
      have hlj := len_bd hj1 hj2
      have hlog := logs_ok Hr.out _ (getD_mem hlt)
      have Hs := Lib.hid (take_range (fitOne p m) j p.regs.length hlt Hall.out)
      have Hfalse := Lib.hid (range_false (fitOne p m) j p.regs.length hlt)
      have Hone : Hid (fitOne p m j = decide ((m.getD j default).length = wordsOf (p.regs.getD j default))) := Lib.hid rfl
      have Hw := Lib.hid (words64 hlog.2)
      generalize p.regs.getD j default = r at *
      generalize hmj : (m.getD j default).length = lm at *
      clear hmj hj1 hj2
      have hjm' : (j : Int) < (m.length : Int) := by omega
      have C := rWords_c r hlog.1 hlog.2 wr
      go_wp2_with fail
      (with_reducible refine C.mono ?_)
      clear C
      rintro e' w2 ⟨rfl, h2⟩
      have f0 := h2.kept f0
      have X := Lib.hid (X.out.trans h2)
      have HE := Lib.hid (HE.out.trans h2)
      clear h2 e0 e1
      by_cases hq : lm = wordsOf r
      · have hqd : ((lm : Int) != ((wordsOf r : Nat) : Int)) = false := by simp; omega
        have HQ := Lib.hid hq
        clear hq
        go_wp2
        go_roundw
        case rel => exact ⟨j + 1, by omega, by go_num, HE.out, by rw [Hs.out, Hone.out]; simp [HQ.out]⟩
        case measure => first | (simp [intOf]; done) | (simp [intOf]; omega)
      · have hqd : ((lm : Int) != ((wordsOf r : Nat) : Int)) = true := by simp; omega
        have HQ := Lib.hid hq
        clear hq
        go_wp2
        go_ret
        exact ⟨(Hgoal _).out (by rw [fits_eq, Hfalse.out (by rw [Hone.out]; simp [HQ.out]), Bool.and_false]), X.out⟩
    · have hje : j = p.regs.length := by omega
      subst hje
      have hjm : m.length ≤ p.regs.length := by omega
      go_wp2
      go_ret
      exact ⟨(Hgoal _).out (by simp [fits_eq, Hr.out, Q.out, Hall.out]), X.out⟩
end Go.Proofs.Yteiknefajlocoaa
/- Walks of the reference's Seen, Memories and Same (chapter 3), of what is the same. -/
namespace Go.Proofs.Yteiknefajlocoaa
open Go.ChangeShapes Go.WideShapes Go.ChangeAt Go.RowKit
set_option linter.unusedVariables false
set_option linter.unusedSimpArgs false

theorem index_see {oa : Option Addr} {n b o cap : Nat} (h : 0 < n → oa = some ⟨b, o, none⟩) (W : World) (i : Int) (h0 : 0 ≤ i) (h1 : i < n) :
    (Instr.indexAt 34 (.slice oa n cap) (.int .i64 i)).run Try.prog W = .ok (.pointer (some ⟨b, o + i.toNat * 3, none⟩)) W := by
  obtain rfl := h (by omega)
  have hs : (Try.prog.info? 98).map (·.size) = some 3 := by kernel_rfl
  simp [Instr.indexAt, run_underlying Try.underlying34, asIntOf, h0, h1]
  exact addr_add b o _
theorem see_ne (a b c : Int) (w : World) : (binOp .neq 98 (.agg #[.int .i64 a, .int .i64 b, .int .i64 c]) (.agg #[.int .i64 a, .int .i64 b, .int .i64 c])).run Try.prog w = .ok (.bool false) w := by
  go_simp
set_option maxHeartbeats 2000000 in
theorem rSeenEq_c (l : List LSee) (v u : Value) (w : World) (hv : SeenAt w v l) (hu : SeenAt w u l) :
    Calls Try.prog 68 #[v, u] w fun e w' => e = .returned (.bool true) ∧ Ext w w' := by
  obtain ⟨oa, cap, b, o, rfl, hc1, hc2, hrow⟩ := hv
  obtain ⟨ob, capb, b2, o2, rfl, hd1, hd2, hrow2⟩ := hu
  have hlen := len_bd hc1 hc2
  have hix := index_see (cap := cap) hrow.at_
  have hix2 := index_see (cap := capb) hrow2.at_
  have Hrow := Lib.hid hrow
  have Hrow2 := Lib.hid hrow2
  have hne := see_ne
  have hq1 : ((l.length : Int) != (l.length : Int)) = false := by simp
  clear hrow hrow2 hc1 hc2 hd1 hd2
  go_enter Try.func68, Try.ntmps68
  go_wp2_with fail
  go_loopw [5] (fun i wr => ∃ j : Nat, j ≤ l.length ∧ i = .int .i64 j ∧ Ext w wr) (fun i _ => l.length - (intOf i).toNat)
  case atStart => exact ⟨0, by omega, rfl, Ext.refl _⟩
  case round =>
    obtain ⟨j, hj, rfl, hE⟩ := hrel
    have X := Lib.hid hE
    clear hE
    by_cases hlt : j < l.length
    · obtain ⟨e0, e1, e2⟩ := (Hrow.out.ext X.out).see j hlt
      obtain ⟨f0, f1, f2⟩ := (Hrow2.out.ext X.out).see j hlt
      generalize l.getD j default = x at *
      have k0 : ∀ W, Ext wr W → W.cell? ⟨b, o + j * 3, none⟩ = some (.int .i64 x.kind) := fun _ h => h.kept e0
      have k1 : ∀ W, Ext wr W → W.cell? ⟨b, o + j * 3 + 1, none⟩ = some (.int .i64 x.a) := fun _ h => h.kept e1
      have k2 : ∀ W, Ext wr W → W.cell? ⟨b, o + j * 3 + 2, none⟩ = some (.int .i64 x.b) := fun _ h => h.kept e2
      have l0 : ∀ W, Ext wr W → W.cell? ⟨b2, o2 + j * 3, none⟩ = some (.int .i64 x.kind) := fun _ h => h.kept f0
      have l1 : ∀ W, Ext wr W → W.cell? ⟨b2, o2 + j * 3 + 1, none⟩ = some (.int .i64 x.a) := fun _ h => h.kept f1
      have l2 : ∀ W, Ext wr W → W.cell? ⟨b2, o2 + j * 3 + 2, none⟩ = some (.int .i64 x.b) := fun _ h => h.kept f2
      clear e0 e1 e2 f0 f1 f2
      go_upto_region 6 with fail
      refine region_calm 9 (by kernel_rfl) (by kernel_rfl) ?_
      simp only [List.take_succ_cons, List.take_zero, List.drop_succ_cons, List.drop_zero]
      repeat (first | (refine calm_fresh ?_ ?_ (fun wc hE => ?_) ?_; (decide); rfl; (focus (go_simp; done)); go_simp) | (refine calm_value ?_ ?_ ?_; (decide); (first | rfl | (focus (go_simp; done))); apply Exists.intro; refine ⟨fun wc hE => ?_, ?_⟩; (go_simp; exact rfl); go_simp) | (refine calm_call ?_ ?_ ?_; (decide); (first | rfl | (focus (go_simp; done))); apply Exists.intro; refine ⟨fun wc hE => ?_, ?_⟩; (go_simp; (first | fail)); go_simp) | (refine calm_skip ?_ ?_ ?_; (decide); (focus (go_simp; done)); go_simp))
      refine calm_nil ?_
      intro wx hx
      have X := Lib.hid (X.out.trans hx)
      clear hx k0 k1 k2 l0 l1 l2
      go_wp2
      go_roundw
      case rel => exact ⟨j + 1, by omega, by go_num, X.out⟩
      case measure => first | (simp [intOf]; done) | (simp [intOf]; omega)
    · go_wp2
      go_ret
      exact ⟨rfl, X.out⟩
theorem i64_ne (x : Int) : (x != x) = false := by simp
set_option maxHeartbeats 4000000 in
theorem rMemEq_c (m : List (List Int)) (v u : Value) (w : World) (hv : MemAt w v m) (hu : MemAt w u m) :
    Calls Try.prog 49 #[v, u] w fun e w' => e = .returned (.bool true) ∧ Ext w w' := by
  obtain ⟨oa, cap, b, o, rfl, hc1, hc2, vs, hrow, hin⟩ := hv
  obtain ⟨ob, capb, b2, o2, rfl, hd1, hd2, us, hrow2, hin2⟩ := hu
  have hlen := len_bd hc1 hc2
  have hix := index_mem' (cap := cap) hrow.at_
  have hix2 := index_mem' (cap := capb) hrow2.at_
  have Hrow := Lib.hid hrow
  have Hrow2 := Lib.hid hrow2
  have Hin := Lib.hid hin
  have Hin2 := Lib.hid hin2
  have hne := i64_ne
  have hq1 : ((m.length : Int) != (m.length : Int)) = false := by simp
  clear hrow hrow2 hc1 hc2 hd1 hd2 hin hin2
  go_enter Try.func49, Try.ntmps49
  go_wp2_with fail
  go_loopw [5] (fun i wr => ∃ j : Nat, j ≤ m.length ∧ i = .int .i64 j ∧ Ext w wr) (fun i _ => m.length - (intOf i).toNat)
  case atStart => exact ⟨0, by omega, rfl, Ext.refl _⟩
  case round =>
    obtain ⟨j, hj, rfl, hE⟩ := hrel
    have X := Lib.hid hE
    clear hE
    by_cases hlt : j < m.length
    · have e0 := (Hrow.out.ext X.out).one j hlt
      have f0 := (Hrow2.out.ext X.out).one j hlt
      have h1 := (Hin.out j hlt).ext X.out
      have h2 := (Hin2.out j hlt).ext X.out
      generalize m.getD j default = l at *
      generalize vs j = vj at *
      generalize us j = uj at *
      obtain ⟨-, oc, capc, b3, o3, rfl, hc3, hc4, r3⟩ := h1
      obtain ⟨-, od, capd, b4, o4, rfl, hd3, hd4, r4⟩ := h2
      have hlen2 := len_bd hc3 hc4
      have hq2 : ((l.length : Int) != (l.length : Int)) = false := by simp
      have hiy := index_i64 (cap := capc) r3.at_
      have hiy2 := index_i64 (cap := capd) r4.at_
      have R3 := Lib.hid r3
      have R4 := Lib.hid r4
      have k0 : ∀ W, Ext wr W → W.cell? ⟨b, o + j, none⟩ = some (.slice oc l.length capc) := fun _ h => h.kept e0
      have k1 : ∀ W, Ext wr W → W.cell? ⟨b2, o2 + j, none⟩ = some (.slice od l.length capd) := fun _ h => h.kept f0
      clear r3 r4 hc3 hc4 hd3 hd4
      go_upto_region 6 with fail
      refine region_calm 11 (by kernel_rfl) (by kernel_rfl) ?_
      simp only [List.take_succ_cons, List.take_zero, List.drop_succ_cons, List.drop_zero]
      repeat (first | (refine calm_fresh ?_ ?_ (fun wc hE => ?_) ?_; (decide); rfl; (focus (go_simp; done)); go_simp) | (refine calm_value ?_ ?_ ?_; (decide); (first | rfl | (focus (go_simp; done))); apply Exists.intro; refine ⟨fun wc hE => ?_, ?_⟩; (go_simp; exact rfl); go_simp) | (refine calm_call ?_ ?_ ?_; (decide); (first | rfl | (focus (go_simp; done))); apply Exists.intro; refine ⟨fun wc hE => ?_, ?_⟩; (go_simp; (first | fail)); go_simp) | (refine calm_skip ?_ ?_ ?_; (decide); (focus (go_simp; done)); go_simp))
      refine calm_nil ?_
      intro wx hx
      have HE := Lib.hid hx
      have X := Lib.hid (X.out.trans hx)
      clear k0 k1
      have e0 := hx.kept e0
      have f0 := hx.kept f0
      clear hx
      go_wp2_with fail
      obtain ⟨w1, hw1⟩ : ∃ w1, w1 = wx := ⟨_, rfl⟩
      subst hw1
      go_loopw [6] (fun i wr => ∃ k : Nat, k ≤ l.length ∧ i = .int .i64 k ∧ Ext w1 wr) (fun i _ => l.length - (intOf i).toNat)
      case atStart => exact ⟨0, by omega, rfl, Ext.refl _⟩
      case round =>
        obtain ⟨k, hk, rfl, hE⟩ := hrel
        have e0 := hE.kept e0
        have f0 := hE.kept f0
        have HE2 := Lib.hid (HE.out.trans hE)
        have HE1 := Lib.hid hE
        clear hE
        by_cases hltk : k < l.length
        · have e1 := (R3.out.ext HE2.out).one k hltk
          have f1 := (R4.out.ext HE2.out).one k hltk
          generalize l.getD k default = x at *
          have k0 : ∀ W, Ext wr W → W.cell? ⟨b, o + j, none⟩ = some (.slice oc l.length capc) := fun _ h => h.kept e0
          have k1 : ∀ W, Ext wr W → W.cell? ⟨b2, o2 + j, none⟩ = some (.slice od l.length capd) := fun _ h => h.kept f0
          have k2 : ∀ W, Ext wr W → W.cell? ⟨b3, o3 + k, none⟩ = some (.int .i64 x) := fun _ h => h.kept e1
          have k3 : ∀ W, Ext wr W → W.cell? ⟨b4, o4 + k, none⟩ = some (.int .i64 x) := fun _ h => h.kept f1
          clear f0 e1 f1
          go_upto_region 11 with fail
          refine region_calm 15 (by kernel_rfl) (by kernel_rfl) ?_
          simp only [List.take_succ_cons, List.take_zero, List.drop_succ_cons, List.drop_zero]
          repeat (first | (refine calm_fresh ?_ ?_ (fun wc hE => ?_) ?_; (decide); rfl; (focus (go_simp; done)); go_simp) | (refine calm_value ?_ ?_ ?_; (decide); (first | rfl | (focus (go_simp; done))); apply Exists.intro; refine ⟨fun wc hE => ?_, ?_⟩; (go_simp; exact rfl); go_simp) | (refine calm_call ?_ ?_ ?_; (decide); (first | rfl | (focus (go_simp; done))); apply Exists.intro; refine ⟨fun wc hE => ?_, ?_⟩; (go_simp; (first | fail)); go_simp) | (refine calm_skip ?_ ?_ ?_; (decide); (focus (go_simp; done)); go_simp))
          refine calm_nil ?_
          intro wy hy
          have HE1 := Lib.hid (HE1.out.trans hy)
          clear hy k0 k1 k2 k3 e0
          go_wp2
          go_roundw
          case rel => exact ⟨k + 1, by omega, by go_num, HE1.out⟩
          case measure => first | (simp [intOf]; done) | (simp [intOf]; omega)
        · have hje : k = l.length := by omega
          subst hje
          have hlt2 : decide ((l.length : Int) < (l.length : Int)) = false := by simp
          go_wp2
          go_roundw
          case rel => exact ⟨j + 1, by omega, by go_num, X.out.trans HE1.out⟩
          case measure => first | (simp [intOf]; done) | (simp [intOf]; omega)
    · have hje : j = m.length := by omega
      subst hje
      have hlt2 : decide ((m.length : Int) < (m.length : Int)) = false := by simp
      go_wp2
      go_ret
      exact ⟨rfl, X.out⟩
set_option maxHeartbeats 4000000 in
theorem rSame3_c (v u : Value) (fin value : Int) (steps : Nat) (seen : List LSee) (mem : List (List Int)) (w : World) (hv : ShownAt w v fin value steps seen mem) (hu : ShownAt w u fin value steps seen mem) :
    Calls Try.prog 33 #[v, u] w fun e w' => e = .returned (.bool true) ∧ Ext w w' := by
  obtain ⟨vs, vm, rfl, hs, hm⟩ := hv
  obtain ⟨us, um, rfl, hs2, hm2⟩ := hu
  have Hs := Lib.hid hs
  have Hm := Lib.hid hm
  have Hs2 := Lib.hid hs2
  have Hm2 := Lib.hid hm2
  have hqa : ∀ x : Int, (x == x) = true := by simp
  clear hs hm hs2 hm2
  go_enter Try.func33, Try.ntmps33
  go_wp2_with fail
  obtain ⟨W, g, hg, hW, hx, bA, bB⟩ := blocks2 w #[.int .i64 fin, .int .i64 value, .int .i64 steps, vs, vm] #[.int .i64 fin, .int .i64 value, .int .i64 steps, us, um] 36 36
  rw [hW, hg]
  have X := Lib.hid hx
  have k4 : W.cell? ⟨g, 4, none⟩ = some vm := by rw [bA.cell]; rfl
  have l4 : W.cell? ⟨g + 1, 4, none⟩ = some um := by rw [bB.cell]; rfl
  clear hW hg hx bA bB
  (with_reducible refine (rSeenEq_c seen vs us W (Hs.out.ext X.out) (Hs2.out.ext X.out)).mono ?_)
  rintro e w1 ⟨rfl, hx⟩
  have X := Lib.hid (X.out.trans hx)
  have k4 := hx.kept k4
  have l4 := hx.kept l4
  clear hx
  go_wp2_with fail
  (with_reducible refine (rMemEq_c mem vm um w1 (Hm.out.ext X.out) (Hm2.out.ext X.out)).mono ?_)
  rintro e w2 ⟨rfl, hx⟩
  have X := Lib.hid (X.out.trans hx)
  clear hx k4 l4
  go_wp2
  go_ret
  exact ⟨rfl, X.out⟩
end Go.Proofs.Yteiknefajlocoaa
/- Walks of the reference's Public, and of the laws' quiet. -/
namespace Go.Proofs.Yteiknefajlocoaa
open Go.ChangeShapes Go.WideShapes Go.ChangeAt Go.RowKit
set_option linter.unusedVariables false
set_option linter.unusedSimpArgs false

theorem row_eq {l r : List Int} (hl : l.length = r.length) (h : ∀ x, x < l.length → l.getD x default = r.getD x default) : l = r := by
  apply List.ext_getElem hl
  intro x h1 h2
  have := h x h1
  simpa [h1, h2] using this
theorem words_64 {l : List LReg} (h : regsOk l = true) : ∀ j, j < l.length → wordsOf (l.getD j default) ≤ 64 := fun j hj => by
  exact words_le _ (regsOk_log h _ (by simp [hj])).2
theorem pub_no {p : LProg} {m n : List (List Int)} {j : Nat} (hj : j < p.regs.length) (hs : (p.regs.getD j default).secret = false) (h : m.getD j default ≠ n.getD j default) : pubOk p m n = false := by
  cases hq : pubOk p m n
  · rfl
  · unfold pubOk at hq
    have := List.all_eq_true.1 hq j (by simpa using hj)
    rw [hs, Bool.false_or, decide_eq_true_eq] at this
    exact absurd this h
theorem pub_yes {p : LProg} {m n : List (List Int)} (h : ∀ r, r < p.regs.length → (p.regs.getD r default).secret = false → m.getD r default = n.getD r default) : pubOk p m n = true := by
  unfold pubOk
  simp only [List.all_eq_true, List.mem_range, Bool.or_eq_true, decide_eq_true_eq]
  intro r hr
  cases hs : (p.regs.getD r default).secret
  · exact .inr (h r hr hs)
  · exact .inl rfl
set_option maxRecDepth 100000 in
set_option maxHeartbeats 4000000 in
theorem public_c (p : LProg) (m n : List (List Int)) {oa : Option Addr} {capa : Nat} {vC vm vn : Value} (w : World) (hp : RegsAt w (.slice oa p.regs.length capa) p.regs) (hm : MemAt w vm m) (hn : MemAt w vn n) (fm : fitsOk p m = true) (fn : fitsOk p n = true) :
    Calls Try.prog 29 #[.agg #[.slice oa p.regs.length capa, vC], vm, vn] w fun e w' => e = .returned (.bool (pubOk p m n)) ∧ Ext w w' := by
  obtain ⟨hml, hmr⟩ := fits_len fm
  obtain ⟨hnl, hnr⟩ := fits_len fn
  have hrl : p.regs.length ≤ 6 := regsOk_len (by unfold fitsOk at fm; simp only [Bool.and_eq_true] at fm; exact fm.1.1)
  obtain ⟨-, oa', capa', br, orr, hv3, hd1, hd2, hrow2⟩ := hp
  simp only [Value.slice.injEq, true_and] at hv3
  obtain ⟨rfl, rfl⟩ := hv3
  have hixr := index_regs (cap := capa) hrow2.at_
  obtain ⟨ob, capb, b, o, rfl, hc1, hc2, vs, hrow, hin⟩ := hm
  obtain ⟨oc, capc, b2, o2, rfl, hc3, hc4, us, hrow3, hin3⟩ := hn
  rw [hml] at hc1 hrow
  rw [hnl] at hc3 hrow3
  have hixm := index_mem' (cap := capb) hrow.at_
  have hixn := index_mem' (cap := capc) hrow3.at_
  have HR := Lib.hid hrow2
  have HM := Lib.hid hrow
  have HN := Lib.hid hrow3
  have HI := Lib.hid hin
  have HJ := Lib.hid hin3
  have HMR := Lib.hid hmr
  have HNR := Lib.hid hnr
  have HML := Lib.hid hml
  have HNL := Lib.hid hnl
  have HW64 : Hid (∀ j, j < p.regs.length → wordsOf (p.regs.getD j default) ≤ 64) := Lib.hid (words_64 (by unfold fitsOk at fm; simp only [Bool.and_eq_true] at fm; exact fm.1.1))
  rw [hml, hnl]
  clear hrow2 hrow hrow3 hin hin3 hmr hnr fm fn hd1 hd2 hc1 hc2 hc3 hc4 hml hnl
  go_enter Try.func29, Try.ntmps29
  go_upto_region 1 with fail
  obtain ⟨W, gp, hg, hW, hx, bP⟩ := block1 w #[.slice oa p.regs.length capa, vC] 25
  rw [hW, hg]
  have X := Lib.hid hx
  have p0 : W.cell? ⟨gp, 0, none⟩ = some (.slice oa p.regs.length capa) := by rw [bP.cell]; rfl
  clear hW hg hx bP
  go_wp2_with fail
  go_loopw [7] (fun i wr => ∃ j : Nat, j ≤ p.regs.length ∧ i = .int .i64 (j : Int) ∧ (∀ r, r < j → (p.regs.getD r default).secret = false → m.getD r default = n.getD r default) ∧ Ext W wr) (fun i _ => p.regs.length - (intOf i).toNat)
  case atStart => exact ⟨0, by omega, rfl, fun r hr => by omega, Ext.refl _⟩
  case round =>
    obtain ⟨j, hj, rfl, hs, hE⟩ := hrel
    have XE := Lib.hid hE
    have HS := Lib.hid hs
    have p0 := hE.kept p0
    clear hE hs
    by_cases hlt : j < p.regs.length
    · obtain ⟨-, e1⟩ := (HR.out.ext (X.out.trans XE.out)).reg j hlt
      cases hsec : (p.regs.getD j default).secret
      · rw [hsec] at e1
        have f0 := (HM.out.ext (X.out.trans XE.out)).one j hlt
        have f1 := (HN.out.ext (X.out.trans XE.out)).one j hlt
        have g0 := (HI.out j (by rw [HML.out]; exact hlt)).ext (X.out.trans XE.out)
        have g1 := (HJ.out j (by rw [HNL.out]; exact hlt)).ext (X.out.trans XE.out)
        have hq1 := HMR.out j hlt
        have hq2 := HNR.out j hlt
        have Hsec := Lib.hid hsec
        have Hno : Hid (m.getD j default ≠ n.getD j default → pubOk p m n = false) := Lib.hid fun h => pub_no hlt hsec h
        have Hyes : Hid (m.getD j default = n.getD j default → ∀ r, r < j + 1 → (p.regs.getD r default).secret = false → m.getD r default = n.getD r default) := Lib.hid fun h r hr hrs => by
          by_cases hrj : r = j
          · rw [hrj]; exact h
          · exact HS.out r (by omega) hrs
        generalize m.getD j default = l at *
        generalize n.getD j default = r at *
        generalize vs j = vl at *
        generalize us j = vr at *
        obtain ⟨-, od, capd, b3, o3, rfl, -, -, r3⟩ := g0
        obtain ⟨-, oe, cape, b4, o4, rfl, -, -, r4⟩ := g1
        have hlr : r.length = l.length := by rw [hq1, hq2]
        have hw64 := HW64.out j hlt
        rw [← hq1] at hw64
        rw [hlr] at f1 r4
        have hiy := index_i64 (cap := capd) r3.at_
        have hiy2 := index_i64 (cap := cape) r4.at_
        have R3 := Lib.hid r3
        have R4 := Lib.hid r4
        have Hlr := Lib.hid hlr
        clear r3 r4 hq1 hq2 hsec hlr
        go_wp2_with fail
        obtain ⟨w1, hw1⟩ : ∃ w1, w1 = wr := ⟨_, rfl⟩
        subst hw1
        go_loopw [8] (fun i wr => ∃ k : Nat, k ≤ l.length ∧ i = .int .i64 (k : Int) ∧ (∀ x, x < k → l.getD x default = r.getD x default) ∧ Ext w1 wr) (fun i _ => l.length - (intOf i).toNat)
        case atStart => exact ⟨0, by omega, rfl, fun x hx => by omega, Ext.refl _⟩
        case round =>
          obtain ⟨k, hk, rfl, hs, hE⟩ := hrel
          have XK := Lib.hid hE
          have HK := Lib.hid hs
          have f0 := hE.kept f0
          have f1 := hE.kept f1
          have p0 := hE.kept p0
          clear hE hs e1
          by_cases hkk : k < l.length
          · have x0 := (R3.out.ext XK.out).one k hkk
            have y0 := (R4.out.ext XK.out).one k hkk
            have Hn : Hid (l.getD k default = r.getD k default → ∀ x, x < k + 1 → l.getD x default = r.getD x default) := Lib.hid fun h x hx => by
              by_cases hxk : x = k
              · rw [hxk]; exact h
              · exact HK.out x (by omega)
            have Hd : Hid (l.getD k default ≠ r.getD k default → pubOk p m n = false) := Lib.hid fun h => Hno.out fun e => h (by rw [e])
            generalize l.getD k default = x at *
            generalize r.getD k default = y at *
            have k0 : ∀ W, Ext wr W → W.cell? ⟨b, o + j, none⟩ = some (.slice od l.length capd) := fun _ h => h.kept f0
            have k1 : ∀ W, Ext wr W → W.cell? ⟨b2, o2 + j, none⟩ = some (.slice oe l.length cape) := fun _ h => h.kept f1
            have k2 : ∀ W, Ext wr W → W.cell? ⟨b3, o3 + k, none⟩ = some (.int .i64 x) := fun _ h => h.kept x0
            have k3 : ∀ W, Ext wr W → W.cell? ⟨b4, o4 + k, none⟩ = some (.int .i64 y) := fun _ h => h.kept y0
            clear x0 y0
            by_cases hxy : x = y
            · have hq : (x != y) = false := by simp [hxy]
              have Hn := Lib.hid (Hn.out hxy)
              clear hxy
              go_upto_region 8 with fail
              refine region_calm 15 (by kernel_rfl) (by kernel_rfl) ?_
              simp only [List.take_succ_cons, List.take_zero, List.drop_succ_cons, List.drop_zero]
              repeat (first | (refine calm_fresh ?_ ?_ (fun wc hE => ?_) ?_; (decide); rfl; (focus (go_simp; done)); go_simp) | (refine calm_value ?_ ?_ ?_; (decide); (first | rfl | (focus (go_simp; done))); apply Exists.intro; refine ⟨fun wc hE => ?_, ?_⟩; (go_simp; exact rfl); go_simp) | (refine calm_call ?_ ?_ ?_; (decide); (first | rfl | (focus (go_simp; done))); apply Exists.intro; refine ⟨fun wc hE => ?_, ?_⟩; (go_simp; (first | fail)); go_simp) | (refine calm_skip ?_ ?_ ?_; (decide); (focus (go_simp; done)); go_simp))
              refine calm_nil ?_
              intro wy hy
              have XK := Lib.hid (XK.out.trans hy)
              clear hy k0 k1 k2 k3
              go_wp2
              go_roundw
              case rel => exact ⟨k + 1, by omega, by go_num, Hn.out, XK.out⟩
              case measure => first | (simp [intOf]; done) | (simp [intOf]; omega)
            · have hq : (x != y) = true := by simp [hxy]
              have Hd := Lib.hid (Hd.out hxy)
              clear hxy
              go_upto_region 8 with fail
              refine region_calm 15 (by kernel_rfl) (by kernel_rfl) ?_
              simp only [List.take_succ_cons, List.take_zero, List.drop_succ_cons, List.drop_zero]
              repeat (first | (refine calm_fresh ?_ ?_ (fun wc hE => ?_) ?_; (decide); rfl; (focus (go_simp; done)); go_simp) | (refine calm_value ?_ ?_ ?_; (decide); (first | rfl | (focus (go_simp; done))); apply Exists.intro; refine ⟨fun wc hE => ?_, ?_⟩; (go_simp; exact rfl); go_simp) | (refine calm_call ?_ ?_ ?_; (decide); (first | rfl | (focus (go_simp; done))); apply Exists.intro; refine ⟨fun wc hE => ?_, ?_⟩; (go_simp; (first | fail)); go_simp) | (refine calm_skip ?_ ?_ ?_; (decide); (focus (go_simp; done)); go_simp))
              refine calm_nil ?_
              intro wy hy
              have XK := Lib.hid (XK.out.trans hy)
              clear hy k0 k1 k2 k3
              go_wp2
              go_ret
              rw [Hd.out]
              exact ⟨rfl, X.out.trans (XE.out.trans XK.out)⟩
          · have hje : k = l.length := by omega
            subst hje
            have hlt2 : decide ((l.length : Int) < (l.length : Int)) = false := by simp
            have Hy := Lib.hid (Hyes.out (row_eq Hlr.out.symm HK.out))
            go_wp2
            go_roundw
            case rel => exact ⟨j + 1, by omega, by go_num, Hy.out, XE.out.trans XK.out⟩
            case measure => first | (simp [intOf]; done) | (simp [intOf]; omega)
      · rw [hsec] at e1
        have Hy : Hid (∀ r, r < j + 1 → (p.regs.getD r default).secret = false → m.getD r default = n.getD r default) := Lib.hid fun r hr hrs => by
          by_cases hrj : r = j
          · rw [hrj, hsec] at hrs; cases hrs
          · exact HS.out r (by omega) hrs
        clear hsec
        go_wp2
        go_roundw
        case rel => exact ⟨j + 1, by omega, by go_num, Hy.out, XE.out⟩
        case measure => first | (simp [intOf]; done) | (simp [intOf]; omega)
    · have hje : j = p.regs.length := by omega
      subst hje
      have hlt2 : decide ((p.regs.length : Int) < (p.regs.length : Int)) = false := by simp
      have Hy := Lib.hid (pub_yes HS.out)
      go_wp2
      go_ret
      rw [Hy.out]
      exact ⟨rfl, X.out.trans XE.out⟩
set_option maxRecDepth 100000 in
set_option maxHeartbeats 4000000 in
theorem quietL_c (p : LProg) (m n : List (List Int)) (fin value : Int) (steps : Nat) (seen : List LSee) (vP u v : Value) (w : World) (hp : ProgAt w vP p) (hu : ShownAt w u fin value steps seen m) (hv : ShownAt w v fin value steps seen n) (fm : fitsOk p m = true) (fn : fitsOk p n = true) (hpub : pubOk p m n = true) :
    Calls Try.prog 30 #[vP, u, v] w fun e w' => e = .returned (.bool true) ∧ Ext w w' := by
  obtain ⟨v1, v2, rfl, hR, hC⟩ := hp
  have HR := Lib.hid hR
  obtain ⟨-, oa, capa, br, orr, rfl, -, -, -⟩ := hR
  obtain ⟨-, oc, capc, bc, oo, rfl, -, -, -⟩ := hC
  obtain ⟨s1, m1, rfl, hs1, hm1⟩ := hu
  obtain ⟨s2, m2, rfl, hs2, hm2⟩ := hv
  have HS1 := Lib.hid hs1
  have HS2 := Lib.hid hs2
  have HM1 := Lib.hid hm1
  have HM2 := Lib.hid hm2
  have Fm := Lib.hid fm
  have Fn := Lib.hid fn
  have Hpub := Lib.hid hpub
  obtain ⟨o1, c1, b1, q1, rfl, -⟩ := hs1
  obtain ⟨o2, c2, b2, q2, rfl, -⟩ := hs2
  obtain ⟨o3, c3, b3, q3, rfl, -⟩ := hm1
  obtain ⟨o4, c4, b4, q4, rfl, -⟩ := hm2
  clear fm fn hpub
  go_enter Try.func30, Try.ntmps30
  go_upto_region 1 with fail
  obtain ⟨W, g, hg, hW, hx, bP, bX, bY⟩ := blocks3 w #[.slice oa p.regs.length capa, .slice oc p.code.length capc] #[.int .i64 fin, .int .i64 value, .int .i64 steps, .slice o1 seen.length c1, .slice o3 m.length c3] #[.int .i64 fin, .int .i64 value, .int .i64 steps, .slice o2 seen.length c2, .slice o4 n.length c4] 25 36 36
  rw [hW, hg]
  have X := Lib.hid hx
  have BP := Lib.hid bP
  have BX := Lib.hid bX
  have BY := Lib.hid bY
  have x3 : W.cell? ⟨g + 1, 3, none⟩ = some (.slice o1 seen.length c1) := by rw [bX.cell]; rfl
  have y3 : W.cell? ⟨g + 1 + 1, 3, none⟩ = some (.slice o2 seen.length c2) := by rw [bY.cell]; rfl
  clear hW hg hx bP bX bY
  go_wp2_with fail
  have C := rSeenEq_c seen _ _ W (HS1.out.ext X.out) (HS2.out.ext X.out)
  (with_reducible refine C.mono ?_)
  clear C
  rintro e w1 ⟨rfl, hx⟩
  have X := Lib.hid (X.out.trans hx)
  have bP := BP.out.ext hx
  have bX := BX.out.ext hx
  have bY := BY.out.ext hx
  have p0 : w1.cell? ⟨g, 0, none⟩ = some (.slice oa p.regs.length capa) := by rw [bP.cell]; rfl
  have p1 : w1.cell? ⟨g, 1, none⟩ = some (.slice oc p.code.length capc) := by rw [bP.cell]; rfl
  have x0 : w1.cell? ⟨g + 1, 0, none⟩ = some (.int .i64 fin) := by rw [bX.cell]; rfl
  have x1 : w1.cell? ⟨g + 1, 1, none⟩ = some (.int .i64 value) := by rw [bX.cell]; rfl
  have x2 : w1.cell? ⟨g + 1, 2, none⟩ = some (.int .i64 steps) := by rw [bX.cell]; rfl
  have x4 : w1.cell? ⟨g + 1, 4, none⟩ = some (.slice o3 m.length c3) := by rw [bX.cell]; rfl
  have y0 : w1.cell? ⟨g + 1 + 1, 0, none⟩ = some (.int .i64 fin) := by rw [bY.cell]; rfl
  have y1 : w1.cell? ⟨g + 1 + 1, 1, none⟩ = some (.int .i64 value) := by rw [bY.cell]; rfl
  have y2 : w1.cell? ⟨g + 1 + 1, 2, none⟩ = some (.int .i64 steps) := by rw [bY.cell]; rfl
  have y4 : w1.cell? ⟨g + 1 + 1, 4, none⟩ = some (.slice o4 n.length c4) := by rw [bY.cell]; rfl
  have hq1 : (fin == fin) = true := by simp
  have hq2 : (value == value) = true := by simp
  have hq3 : ((steps : Int) == (steps : Int)) = true := by simp
  clear hx bP bX bY x3 y3
  go_wp2_with fail
  have C := public_c p m n (vC := .slice oc p.code.length capc) w1 (HR.out.ext X.out) (HM1.out.ext X.out) (HM2.out.ext X.out) Fm.out Fn.out
  rw [Hpub.out] at C
  (with_reducible refine C.mono ?_)
  clear C
  rintro e w2 ⟨rfl, hx⟩
  have X := Lib.hid (X.out.trans hx)
  clear hx
  go_wp2
  go_ret
  exact ⟨rfl, X.out⟩
end Go.Proofs.Yteiknefajlocoaa
