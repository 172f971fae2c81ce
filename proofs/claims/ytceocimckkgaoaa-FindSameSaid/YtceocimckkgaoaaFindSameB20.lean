/- Laid together from: Form4, Form5, FormF, FormR, FormR2, FormR3, FormR4, FormR5, FormR6, FormS, FormS2. -/
import Derived.Test.YtceocimckkgaoaaFindSameB19

namespace Go.Proofs.Ytceocimckkgaoaa
open Go.ChangeShapes Go.WideShapes Go.ChangeAt Go.RowKit
set_option linter.unusedVariables false
set_option linter.unusedSimpArgs false
theorem Qcz (g : Nat) (oa : Option Addr) (cap : Nat) (ob : Option Addr) (capb : Nat) (R : Int) (ok : Bool) (p : Q00) (i : LIns) (hi : i.fits) (w : World) (b0 o0 : Nat) (hgb : g ≠ b0) (hR : Rows w oa b0 o0 p.regs.length 2 fun i => Q3p (p.regs.getD i default)) (hreg : ok = true → ∀ r ∈ p.regs, 0 ≤ r.log ∧ r.log ≤ 6)
  (h0 : w.cell? ⟨g, 0, none⟩ = some (.slice oa p.regs.length cap)) (h1 : w.cell? ⟨g, 1, none⟩ = some (.slice ob p.code.length capb)) (h2 : w.cell? ⟨g, 2, none⟩ = some (.int .i64 R)) (h3 : w.cell? ⟨g, 3, none⟩ = some (.bool ok) ∧ w.frozen? ⟨g, 3, none⟩ = false) :
  Calls Try.prog 67 #[.pointer (some ⟨g, 0, none⟩), .agg #[.int .i64 i.op, .int .i64 i.a, .int .i64 i.b, .int .i64 i.c, .int .i64 i.n]] w fun e w' => e = .returned (.tuple #[]) ∧ Ext (w.setCell ⟨g, 3, none⟩ (.bool (ok && Q03 p R i))) w' := by
 obtain ⟨op, a, b, c, n⟩ := i
 obtain ⟨fo, fa, fb, fc, fn⟩ := hi
 by_cases e1 : op = 1
 ·subst e1; exact Qcp g oa cap ob capb R ok p a b c n fa fb fc fn w h0 h1 h2 h3
 by_cases e2 : op = 2
 ·subst e2; exact Qcs g oa cap ob capb R ok p a b c n fa fb fc fn w h0 h1 h2 h3
 by_cases e3 : op = 3
 ·subst e3; exact Q69 g oa cap ob capb R ok p a b c n fa fb fc fn w h0 h1 h2 h3
 by_cases e4 : op = 4
 ·subst e4; exact Q68 g oa cap ob capb R ok p a b c n fa fb fc fn w h0 h1 h2 h3
 by_cases e5 : op = 5
 ·subst e5; exact Qcu g oa cap ob capb R ok p a b c n fa fb fc fn w b0 o0 hgb hR hreg h0 h1 h2 h3
 by_cases e6 : op = 6
 ·subst e6; exact Qcq g oa cap ob capb R ok p a b c n fa fb fc fn w b0 o0 hgb hR hreg h0 h1 h2 h3
 by_cases e7 : op = 7
 ·subst e7; exact Qcv g oa cap ob capb R ok p a b c n fa fb fc fn w h0 h1 h2 h3
 by_cases e8 : op = 8
 ·subst e8; exact Qcw g oa cap ob capb R ok p a b c n fa fb fc fn w h0 h1 h2 h3
 by_cases e9 : op = 9
 ·subst e9; exact Qcx g oa cap ob capb R ok p a b c n fa fb fc fn w h0 h1 h2 h3
 by_cases e10 : op = 10
 ·subst e10; exact Qd0 g oa cap ob capb R ok p a b c n fa fb fc fn w h0 h1 h2 h3
 by_cases e11 : op = 11
 ·subst e11; exact Qct g oa cap ob capb R ok p a b c n fa fb fc fn w h0 h1 h2 h3
 by_cases e12 : op = 12
 ·subst e12; exact Qcy g oa cap ob capb R ok p a b c n fa fb fc fn w h0 h1 h2 h3
 exact Qcr g oa cap ob capb R ok p op a b c n fa fb fc fn w fo (by simpa using e1) (by simpa using e2) (by simpa using e3) (by simpa using e4) (by simpa using e5) (by simpa using e6) (by simpa using e7) (by simpa using e8) (by simpa using e9) (by simpa using e10) (by simpa using e11) (by simpa using e12) h0 h1 h2 h3
theorem Q8n {oa : Option Addr} {n b o cap : Nat} (h : 0 < n → oa = some ⟨b, o, none⟩) (W : World) (i : Int) (h0 : 0 ≤ i) (h1 : i < n) :
  (Instr.indexAt 23 (.slice oa n cap) (.int .i64 i)).run Try.prog W = .ok (.pointer (some ⟨b, o + i.toNat * 5, none⟩)) W := by
 obtain rfl := h (by omega)
 have hs : (Try.prog.info? 75).map (·.size) = some 5 := by kernel_rfl
 simp [Instr.indexAt, run_underlying Try.underlying23, asIntOf, h0, h1]
 exact Q2m b o _
theorem Rows.upd {w w' : World} {oa : Option Addr} {b o n c : Nat} {f : Nat → Nat → Value} {p : Addr} {v : Value} (h : Rows w oa b o n c f) (hp : p.block ≠ b) (hx : Ext (w.setCell p v) w') : Rows w' oa b o n c f :=
 ⟨h.at_, fun i j hi hj => Q19 hx (by rintro rfl; exact hp rfl) (h.cell i j hi hj)⟩
theorem Qcc {w : World} {oa : Option Addr} {b o n c : Nat} {f : Nat → Nat → Value} (h : Rows w oa b o n c f) (hn : 0 < n) (hc : 0 < c) : b < w.heap.size := by
 have := Q0m (h.cell 0 0 hn hc)
 exact this
theorem Rows.away {w : World} {oa : Option Addr} {b o n c : Nat} {f : Nat → Nat → Value} (h : Rows w oa b o n c f) (hc : 0 < c) (g : Nat) (hg : w.heap.size ≤ g) : ∃ b', b' ≠ g ∧ Rows w oa b' o n c f := by
 by_cases hn : 0 < n
 ·exact ⟨b, by have := Qcc h hn hc; omega, h⟩
 ·refine ⟨g + 1, by omega, ⟨fun h0 => absurd h0 hn, fun i j hi hj => by omega⟩⟩
theorem Q89 (n : Nat) : decide (1 ≤ n) = decide ((1 : Int) ≤ (n : Int)) := by rw [Bool.eq_iff_iff]; simp; omega
set_option maxHeartbeats 4000000 in
theorem Qce (p : Q00) (v : Value) (most R : Int) (hm : R64 most) (hRr : R64 R) (w : World) (hp : Q1u w v p) :
  Calls Try.prog 52 #[v, .int .i64 most, .int .i64 R] w fun e w' => e = .returned (.bool (Q4d p most R)) ∧ Ext w w' := by
 have hp' := hp
 obtain ⟨v1, v2, rfl, ⟨hb, oa, cap, b, o, rfl, hc1, hc2, hrow⟩, ⟨hf, ob, capb, b2, o2, rfl, hd1, hd2, hrow2⟩⟩ := hp
 have HP := Lib.hid hp'
 have hm0 := hm.1
 have hm1 := hm.2
 have Hrow := Lib.hid hrow
 have Hrow2 := Lib.hid hrow2
 have hlen := Q2d hc1 hc2
 have hlen2 := Q2d hd1 hd2
 have hix := Q8n (cap := capb) hrow2.at_
 clear hrow hrow2 hc1 hc2 hd1 hd2 hp'
 go_enter Try.func52, Try.ntmps52
 go_upto_region 1 with fail
 obtain ⟨w0, g, hg, hW, hx, c0, c1⟩ := new2 w 25 (.slice oa p.regs.length cap) (.slice ob p.code.length capb)
 rw [hW, hg]
 have X0 := Lib.hid hx
 clear hW hx
 have hgs : w.heap.size ≤ g := by omega
 clear hg
 obtain ⟨ok0, Hok0⟩ : ∃ b : Bool, Hid (b = (Q0l p.regs && decide ((1 : Int) ≤ (p.code.length : Int)) && decide ((p.code.length : Int) ≤ most))) := ⟨_, Lib.hid rfl⟩
 go_cut [7] (fun s7 wx => ∃ k : Nat, s7 = .pointer (some ⟨k, 0, none⟩) ∧ w0.heap.size ≤ k ∧ Ext w0 wx ∧ Blk wx k 103 #[.slice oa p.regs.length cap, .slice ob p.code.length capb, .int .i64 R, .bool ok0])
 case first =>
  have k0 : ∀ W, Ext w0 W → W.cell? ⟨g, 0, none⟩ = some (.slice oa p.regs.length cap) := fun _ h => h.kept c0.1
  have k1 : ∀ W, Ext w0 W → W.cell? ⟨g, 1, none⟩ = some (.slice ob p.code.length capb) := fun _ h => h.kept c1.1
  have HC : ∀ W, Ext w0 W → Hid (Calls Try.prog 53 #[.agg #[.slice oa p.regs.length cap, .slice ob p.code.length capb]] W fun e w' => e = .returned (.bool (Q0l p.regs)) ∧ Ext W w') := fun W h => Lib.hid (Q7t p _ W (HP.out.ext (X0.out.trans h)))
  refine Q3o 19 18 (some 28) (by decide) rfl (by kernel_rfl) (by kernel_rfl) (fun k => .pointer (some ⟨k, 0, none⟩)) 103 #[.slice oa p.regs.length cap, .slice ob p.code.length capb, .int .i64 R, .bool ok0] ?_
  simp only [List.take_succ_cons, List.take_zero, List.drop_succ_cons, List.drop_zero]
  cases hr : Q0l p.regs
  ·have hk0 : ok0 = false := by rw [Hok0.out, hr]; rfl
   rw [hr] at HC
   clear hr Hok0
   subst hk0
   repeat (first | (refine Q0h ?_ ?_ (fun wc hE => ?_) ?_; (decide); rfl; (focus (go_simp; done)); go_simp) | (refine Q0b ?_ ?_ ?_; (decide); (first | rfl | (focus (go_simp; done))); apply Exists.intro; refine ⟨fun wc hE => ?_, ?_⟩; (go_simp; exact rfl); go_simp) | (refine Q0i ?_ ?_ ?_; (decide); (first | rfl | (focus (go_simp; done))); apply Exists.intro; refine ⟨fun wc hE => ?_, ?_⟩; (go_simp; (first | (with_reducible exact Q1y ((HC _ ‹_›).out)))); go_simp) | (refine Q0f ?_ ?_ ?_; (decide); (focus (go_simp; done)); go_simp))
   refine Q0g ?_
   intro k wx hk hB hE
   go_wp2
   go_meet
   exact ⟨k, rfl, hk, hE, hB⟩
  ·rw [hr] at HC
   by_cases h1 : (1 : Int) ≤ (p.code.length : Int)
   ·by_cases h2 : (p.code.length : Int) ≤ most
    ·have hk0 : ok0 = true := by rw [Hok0.out, hr]; simp [h1, h2]
     clear hr Hok0
     subst hk0
     repeat (first | (refine Q0h ?_ ?_ (fun wc hE => ?_) ?_; (decide); rfl; (focus (go_simp; done)); go_simp) | (refine Q0b ?_ ?_ ?_; (decide); (first | rfl | (focus (go_simp; done))); apply Exists.intro; refine ⟨fun wc hE => ?_, ?_⟩; (go_simp; exact rfl); go_simp) | (refine Q0i ?_ ?_ ?_; (decide); (first | rfl | (focus (go_simp; done))); apply Exists.intro; refine ⟨fun wc hE => ?_, ?_⟩; (go_simp; (first | (with_reducible exact Q1y ((HC _ ‹_›).out)))); go_simp) | (refine Q0f ?_ ?_ ?_; (decide); (focus (go_simp; done)); go_simp))
     refine Q0g ?_
     intro k wx hk hB hE
     go_wp2
     go_meet
     exact ⟨k, rfl, hk, hE, hB⟩
    ·have hk0 : ok0 = false := by rw [Hok0.out, hr]; simp [h1, h2]
     have h2' : decide ((p.code.length : Int) ≤ most) = false := by simpa using h2
     clear hr Hok0 h2
     subst hk0
     repeat (first | (refine Q0h ?_ ?_ (fun wc hE => ?_) ?_; (decide); rfl; (focus (go_simp; done)); go_simp) | (refine Q0b ?_ ?_ ?_; (decide); (first | rfl | (focus (go_simp; done))); apply Exists.intro; refine ⟨fun wc hE => ?_, ?_⟩; (go_simp; exact rfl); go_simp) | (refine Q0i ?_ ?_ ?_; (decide); (first | rfl | (focus (go_simp; done))); apply Exists.intro; refine ⟨fun wc hE => ?_, ?_⟩; (go_simp; (first | (with_reducible exact Q1y ((HC _ ‹_›).out)))); go_simp) | (refine Q0f ?_ ?_ ?_; (decide); (focus (go_simp; done)); go_simp))
     refine Q0g ?_
     intro k wx hk hB hE
     go_wp2
     go_meet
     exact ⟨k, rfl, hk, hE, hB⟩
   ·have hk0 : ok0 = false := by rw [Hok0.out, hr]; simp [h1]
    have h1' : decide ((1 : Int) ≤ (p.code.length : Int)) = false := by simpa using h1
    clear hr Hok0 h1
    subst hk0
    repeat (first | (refine Q0h ?_ ?_ (fun wc hE => ?_) ?_; (decide); rfl; (focus (go_simp; done)); go_simp) | (refine Q0b ?_ ?_ ?_; (decide); (first | rfl | (focus (go_simp; done))); apply Exists.intro; refine ⟨fun wc hE => ?_, ?_⟩; (go_simp; exact rfl); go_simp) | (refine Q0i ?_ ?_ ?_; (decide); (first | rfl | (focus (go_simp; done))); apply Exists.intro; refine ⟨fun wc hE => ?_, ?_⟩; (go_simp; (first | (with_reducible exact Q1y ((HC _ ‹_›).out)))); go_simp) | (refine Q0f ?_ ?_ ?_; (decide); (focus (go_simp; done)); go_simp))
    refine Q0g ?_
    intro k wx hk hB hE
    go_wp2
    go_meet
    exact ⟨k, rfl, hk, hE, hB⟩
 case rest =>
 obtain ⟨k, rfl, hk, hE, hB⟩ := hcut
 have g0 : wc.cell? ⟨k, 0, none⟩ = some (.slice oa p.regs.length cap) := by rw [hB.cell]; rfl
 have g1 : wc.cell? ⟨k, 1, none⟩ = some (.slice ob p.code.length capb) := by rw [hB.cell]; rfl
 have g2 : wc.cell? ⟨k, 2, none⟩ = some (.int .i64 R) := by rw [hB.cell]; rfl
 have g3 : wc.cell? ⟨k, 3, none⟩ = some (.bool ok0) ∧ wc.frozen? ⟨k, 3, none⟩ = false := ⟨by rw [hB.cell]; rfl, hB.frozen 3⟩
 have c0 := Q06 hE c0
 have c1 := Q06 hE c1
 have XC := Lib.hid (X0.out.trans hE)
 have hks : w.heap.size ≤ k := Nat.le_trans X0.out.size hk
 obtain ⟨b', hb', hR'⟩ := Hrow.out.away (by omega) k hks
 have HR := Lib.hid (hR'.ext XC.out)
 clear hB hE hk hR'
 go_wp2_with fail
 go_loopw [32] (fun i wr => ∃ j : Nat, j ≤ p.code.length ∧ i = .int .i64 j ∧ Ext (wc.setCell ⟨k, 3, none⟩ (.bool (ok0 && (p.code.take j).all (Q03 p R)))) wr) (fun i _ => p.code.length - (intOf i).toNat)
 case atStart => exact ⟨0, by omega, rfl, by simpa using Q3g g3.1 (Ext.refl _)⟩
 case round =>
  obtain ⟨j, hj, rfl, hr⟩ := hrel
  have r0 := Q19 hr (by simp) g0
  have r1 := Q19 hr (by simp) g1
  have r2 := Q19 hr (by simp) g2
  have r3 := Q46 hr g3
  have Hr := Lib.hid hr
  have EW := Lib.hid (Q9e hr XC.out hks)
  clear hr
  by_cases hlt : j < p.code.length
  ·obtain ⟨e0, e1, e2, e3, e4⟩ := (Hrow2.out.ext EW.out).ins j hlt
   have hfi := hf _ (Q1s hlt)
   have Hs := Lib.hid (Q4q (Q03 p R) p.code j default hlt ok0)
   have Hfalse := Lib.hid (Q90 (Q03 p R) p.code j default hlt)
   generalize p.code.getD j default = i at *
   obtain ⟨okj, Hokj⟩ : ∃ b : Bool, Hid (b = (ok0 && (p.code.take j).all (Q03 p R))) := ⟨_, Lib.hid rfl⟩
   rw [← Hokj.out] at r3 Hr Hs
   have hkl : k < wr.heap.size := Q0m r3.1
   cases okj
   ·go_wp2
    go_ret
    refine ⟨Q23 ?_, EW.out.alloc _⟩
    have hz := Hokj.out
    have ht : (ok0 && p.code.all (Q03 p R)) = false := by
     rw [← List.take_append_drop j p.code, List.all_append, ← Bool.and_assoc, ← hz]; rfl
    unfold Q4d
    rw [← ht, Hok0.out]
    rw [Q89]
   ·have hreg : true = true → ∀ r ∈ p.regs, 0 ≤ r.log ∧ r.log ≤ 6 := fun _ => by
     have hz := Hokj.out.symm
     rw [Hok0.out] at hz
     simp only [Bool.and_eq_true] at hz
     have h1 := hz.1.1.1
     simp only [Q0l, Bool.and_eq_true, List.all_eq_true] at h1
     intro r hr
     have := h1.1 r hr
     simpa [Q24] using this
    have hA := (Ext.refl wr).alloc (.cells #[.int .i64 i.op, .int .i64 i.a, .int .i64 i.b, .int .i64 i.c, .int .i64 i.n] 75)
    have C := Qcz k oa cap ob capb R true p i hfi (wr.alloc (.cells #[.int .i64 i.op, .int .i64 i.a, .int .i64 i.b, .int .i64 i.c, .int .i64 i.n] 75)) b' o (Ne.symm hb') ((HR.out.upd (Ne.symm hb') Hr.out).ext hA) hreg (hA.kept r0) (hA.kept r1) (hA.kept r2) (Q06 hA r3)
    have HC := Lib.hid C
    clear C hA hreg
    go_wp2_with fail
    (with_reducible refine HC.out.mono ?_)
    rintro e' w2 ⟨rfl, hx⟩
    have hfin := Lib.hid (Q12 Hr.out (Q1i ((Ext.refl wr).alloc _) hx))
    rw [← Hs.out] at hfin
    clear hx HC
    go_wp2
    go_roundw
    case rel => exact ⟨j + 1, by omega, by go_num, hfin.out⟩
    case measure => first | (simp [intOf]; done) | (simp [intOf]; omega)
  ·have hje : j = p.code.length := by omega
   subst hje
   rw [List.take_length] at r3
   go_wp2
   go_ret
   refine ⟨Q23 ?_, EW.out⟩
   unfold Q4d
   rw [Hok0.out]
   rw [Q89]
theorem Qdb (p : Q00) (v : Value) (w : World) (hp : Q1u w v p) :
  Calls Try.prog 31 #[v] w fun e w' => e = .returned (.bool (Q2w p)) ∧ Ext w w' := by
 have HP := Lib.hid hp
 obtain ⟨v1, v2, rfl, -⟩ := hp
 go_enter Try.func31, Try.ntmps31
 go_wp2_with fail
 have hA := (Ext.refl w).alloc (.cells #[v1, v2] 25)
 have C := Qce p _ 8000 10 (by unfold R64; omega) (by unfold R64; omega) _ (HP.out.ext hA)
 (with_reducible refine C.mono ?_)
 rintro e w1 ⟨rfl, hx⟩
 have HX := Lib.hid (hA.trans hx)
 clear hx hA C
 go_wp2
 go_ret
 exact ⟨rfl, HX.out⟩
theorem Q6b {oa : Option Addr} {n b o cap : Nat} (h : 0 < n → oa = some ⟨b, o, none⟩) (W : World) (i : Int) (h0 : 0 ≤ i) (h1 : i < n) :
  (Instr.indexAt 26 (.slice oa n cap) (.int .i64 i)).run Try.prog W = .ok (.pointer (some ⟨b, o + i.toNat, none⟩)) W := by
 obtain rfl := h (by omega)
 have hs : (Try.prog.info? 57).map (·.size) = some 1 := by kernel_rfl
 simp [Instr.indexAt, run_underlying Try.underlying26, asIntOf, h0, h1]
 exact Q2m b o _
def Q4j (p : Q00) (m : List (List Int)) (i : Nat) : Bool := decide ((m.getD i default).length = Q09 (p.regs.getD i default))
theorem Q9n (f : Nat → Bool) (k n : Nat) (hk : k < n) (h : (List.range k).all f = true) : (List.range (k + 1)).all f = f k := by
 rw [List.range_succ, List.all_append, h]; simp
theorem Qav (f : Nat → Bool) (k n : Nat) (hk : k < n) (h : f k = false) : (List.range n).all f = false := by
 rw [List.all_eq_false]; exact ⟨k, List.mem_range.2 hk, by simp [h]⟩
theorem Q5e (p : Q00) (m : List (List Int)) : Q2e p m = (Q0l p.regs && decide (m.length = p.regs.length) && (List.range p.regs.length).all (Q4j p m)) := rfl
theorem Qcf {l : List LReg} (h : Q0l l = true) : ∀ r ∈ l, 0 ≤ r.log ∧ r.log ≤ 6 := by
 intro r hr
 simp only [Q0l, Bool.and_eq_true, List.all_eq_true] at h
 have := h.1 r hr
 simpa [Q24] using this
theorem Q99 {r : LReg} (h : r.log ≤ 6) : Q09 r ≤ 64 := by
 unfold Q09
 exact Nat.le_trans (Nat.pow_le_pow_right (by omega) (show r.log.toNat ≤ 6 by omega)) (by decide)
set_option maxHeartbeats 4000000 in
theorem Qcj (p : Q00) (v : Value) (m : List (List Int)) (vm : Value) (w : World) (hp : Q1u w v p) (hm : Q1v w vm m) :
  Calls Try.prog 32 #[v, vm] w fun e w' => e = .returned (.bool (Q2e p m)) ∧ Ext w w' := by
 have hp' := hp
 have hm' := hm
 obtain ⟨v1, v2, rfl, ⟨hb, oa, cap, b, o, rfl, hc1, hc2, hrow⟩, hcode⟩ := hp
 obtain ⟨om, capm, bm, um, rfl, hd1, hd2, vs, hrow2, hvs⟩ := hm
 have HP := Lib.hid hp'
 have hlen := Q2d hc1 hc2
 have hlen2 := Q2d hd1 hd2
 have hix := Q3w (cap := cap) hrow.at_
 have hixm := Q6b (cap := capm) hrow2.at_
 have Hrow := Lib.hid hrow
 have Hrow2 := Lib.hid hrow2
 have Hvs := Lib.hid hvs
 have Hgoal : ∀ r : Bool, Hid (r = Q2e p m → Ending.returned (.bool r) = .returned (.bool (Q2e p m))) := fun r => Lib.hid fun h => by rw [h]
 clear hrow hrow2 hc1 hc2 hd1 hd2 hp' hcode hvs hm'
 go_enter Try.func32, Try.ntmps32
 go_wp2_with fail
 obtain ⟨w0, g, hg, hW, hx, c0, c1⟩ := new2 w 25 (.slice oa p.regs.length cap) v2
 rw [hW, hg]
 have X := Lib.hid hx
 clear hW hg hx
 have C := Q7t p _ w0 (HP.out.ext X.out)
 cases hr : Q0l p.regs
 ·rw [hr] at C
  have Hr := Lib.hid hr
  clear hr
  (with_reducible refine C.mono ?_)
  rintro e w1 ⟨rfl, h1⟩
  have X := Lib.hid (X.out.trans h1)
  clear h1 C
  go_wp2
  go_ret
  exact ⟨(Hgoal _).out (by simp [Q5e, Hr.out]), X.out⟩
 rw [hr] at C
 have Hr := Lib.hid hr
 clear hr
 (with_reducible refine C.mono ?_)
 rintro e w1 ⟨rfl, h1⟩
 have X := Lib.hid (X.out.trans h1)
 have c0 := Q06 h1 c0
 have c1 := Q06 h1 c1
 clear h1 C
 by_cases q0 : m.length = p.regs.length
 rotate_left
 ·have q0d : ((m.length : Int) != (p.regs.length : Int)) = true := by simp; omega
  have Q := Lib.hid q0
  clear q0
  go_wp2
  go_ret
  exact ⟨(Hgoal _).out (by simp [Q5e, Q.out]), X.out⟩
 have q0d : ((m.length : Int) != (p.regs.length : Int)) = false := by simp; omega
 have Q := Lib.hid q0
 have hml : m.length ≤ p.regs.length ∧ p.regs.length ≤ m.length := by omega
 clear q0
 go_wp2_with fail
 go_loopw [21] (fun i wr => ∃ j : Nat, j ≤ p.regs.length ∧ i = .int .i64 j ∧ Ext w1 wr ∧ (List.range j).all (Q4j p m) = true) (fun i _ => p.regs.length - (intOf i).toNat)
 case atStart => exact ⟨0, by omega, rfl, Ext.refl _, by simp⟩
 case round =>
  obtain ⟨j, hj, rfl, hE, hall⟩ := hrel
  have c0 := Q06 hE c0
  have c1 := Q06 hE c1
  have X := Lib.hid (X.out.trans hE)
  have HE := Lib.hid hE
  have Hall := Lib.hid hall
  clear hE hall
  by_cases hlt : j < p.regs.length
  ·obtain ⟨e0, e1⟩ := (Hrow.out.ext X.out).reg j hlt
   have hjm : j < m.length := by omega
   have f0 := (Hrow2.out.ext X.out).one j hjm
   obtain ⟨-, oj, capj, bj, uj, hvj, hj1, hj2, -⟩ := Hvs.out j hjm
   rw [hvj] at f0
   clear hvj
   have hlj := Q2d hj1 hj2
   have hlog := Qcf Hr.out _ (Q1s hlt)
   have Hs := Lib.hid (Q9n (Q4j p m) j p.regs.length hlt Hall.out)
   have Hfalse := Lib.hid (Qav (Q4j p m) j p.regs.length hlt)
   have Hone : Hid (Q4j p m j = decide ((m.getD j default).length = Q09 (p.regs.getD j default))) := Lib.hid rfl
   have Hw := Lib.hid (Q99 hlog.2)
   generalize p.regs.getD j default = r at *
   generalize hmj : (m.getD j default).length = lm at *
   clear hmj hj1 hj2
   go_upto_region 6 with fail
   obtain ⟨w2, hw2⟩ : ∃ w2, w2 = wr.alloc (.cells #[.int .i64 r.log, .bool r.secret] 79) := ⟨_, rfl⟩
   have bR : Blk w2 wr.heap.size 79 #[.int .i64 r.log, .bool r.secret] := by rw [hw2]; exact Blk.new wr _ _
   have h2 : Ext wr w2 := by rw [hw2]; exact (Ext.refl wr).alloc _
   rw [← hw2]
   clear hw2
   have r0 : w2.cell? ⟨wr.heap.size, 0, none⟩ = some (.int .i64 r.log) := by rw [bR.cell]; rfl
   have r1 : w2.cell? ⟨wr.heap.size, 1, none⟩ = some (.bool r.secret) := by rw [bR.cell]; rfl
   generalize wr.heap.size = kr at *
   have k0 : ∀ W, Ext w2 W → W.cell? ⟨kr, 0, none⟩ = some (.int .i64 r.log) := fun _ h => h.kept r0
   have k1 : ∀ W, Ext w2 W → W.cell? ⟨kr, 1, none⟩ = some (.bool r.secret) := fun _ h => h.kept r1
   have k2 : ∀ W, Ext w2 W → W.cell? ⟨bm, um + j, none⟩ = some (.slice oj lm capj) := fun _ h => h.kept (h2.kept f0)
   have X := Lib.hid (X.out.trans h2)
   have HE := Lib.hid (HE.out.trans h2)
   have c0 := Q06 h2 c0
   have c1 := Q06 h2 c1
   clear h2 e0 e1 f0 r0 r1 bR
   have hjm' : (j : Int) < (m.length : Int) := by omega
   refine Q0t 8 (by kernel_rfl) (by kernel_rfl) ?_
   simp only [List.take_succ_cons, List.take_zero, List.drop_succ_cons, List.drop_zero]
   repeat (first | (refine Q0h ?_ ?_ (fun wc hE => ?_) ?_; (decide); rfl; (focus (go_simp; done)); go_simp) | (refine Q0b ?_ ?_ ?_; (decide); (first | rfl | (focus (go_simp; done))); apply Exists.intro; refine ⟨fun wc hE => ?_, ?_⟩; (go_simp; exact rfl); go_simp) | (refine Q0i ?_ ?_ ?_; (decide); (first | rfl | (focus (go_simp; done))); apply Exists.intro; refine ⟨fun wc hE => ?_, ?_⟩; (go_simp; (first | (with_reducible exact Q1y (Q44 r hlog.1 hlog.2 _)))); go_simp) | (refine Q0f ?_ ?_ ?_; (decide); (focus (go_simp; done)); go_simp))
   refine Q0g ?_
   intro wx hx
   have HX := Lib.hid (HE.out.trans hx)
   have X := Lib.hid (X.out.trans hx)
   clear hx k0 k1 k2
   by_cases hq : lm = Q09 r
   ·have hqd : ((lm : Int) != ((Q09 r : Nat) : Int)) = false := by simp; omega
    have HQ := Lib.hid hq
    clear hq
    go_wp2
    go_roundw
    case rel => exact ⟨j + 1, by omega, by go_num, HX.out, by rw [Hs.out, Hone.out]; simp [HQ.out]⟩
    case measure => first | (simp [intOf]; done) | (simp [intOf]; omega)
   ·have hqd : ((lm : Int) != ((Q09 r : Nat) : Int)) = true := by simp; omega
    have HQ := Lib.hid hq
    clear hq
    go_wp2
    go_ret
    exact ⟨(Hgoal _).out (by rw [Q5e, Hfalse.out (by rw [Hone.out]; simp [HQ.out]), Bool.and_false]), X.out⟩
  ·have hje : j = p.regs.length := by omega
   subst hje
   have hjm : m.length ≤ p.regs.length := by omega
   go_wp2
   go_ret
   exact ⟨(Hgoal _).out (by simp [Q5e, Hr.out, Q.out, Hall.out]), X.out⟩
end Go.Proofs.Ytceocimckkgaoaa
