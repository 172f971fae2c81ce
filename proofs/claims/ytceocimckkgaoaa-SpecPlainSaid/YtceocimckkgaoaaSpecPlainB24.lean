/- Laid together from: Seq7, Play5, Play6, Ref3e, SeqR. -/
import Derived.Test.YtceocimckkgaoaaSpecPlainB23
import Derived.Test.YtceocimckkgaoaaSpecPlainB20
import Derived.Test.YtceocimckkgaoaaSpecPlainB22
import Derived.Test.YtceocimckkgaoaaSpecPlainB21

namespace Go.Proofs.Ytceocimckkgaoaa
open Go.ChangeShapes Go.WideShapes Go.ChangeAt Go.RowKit
set_option linter.unusedVariables false
set_option linter.unusedSimpArgs false
def mayE (p : Q00) (m : List (List Int)) (fuel : Int) : Int := if (Q24 p && Q25 p m) = false then 2 else if fuel < 0 ∨ 40000 < fuel then 3 else 0
theorem Q6c {p : Q00} {m : List (List Int)} {fuel : Int} (h : mayE p m fuel = 0) : Q24 p = true ∧ Q25 p m = true ∧ 0 ≤ fuel ∧ fuel ≤ 40000 := by
 unfold mayE at h
 split at h
 ·cases h
 ·rename_i h1
  split at h
  ·cases h
  ·rename_i h2
   simp only [Bool.not_eq_false, Bool.and_eq_true] at h1
   exact ⟨h1.1, h1.2, by omega, by omega⟩
set_option maxHeartbeats 1000000 in
theorem Q8w (p : Q00) (m : List (List Int)) (fuel : Int) (v vm : Value) (w : World) (hp : Q1u w v p) (hm : Q1v w vm m) (hf : R64 fuel) :
  Calls Try.prog 15 #[v, vm, .int .i64 fuel] w fun e w' => e = .returned (.int .i64 (mayE p m fuel)) ∧ Ext w w' := by
 have HP := Lib.hid hp
 have HM := Lib.hid hm
 obtain ⟨a0, a1, a2, b0, b1, b2, rfl⟩ := Q8f hp
 have hf0 := hf.1
 have hf1 := hf.2
 clear hp hm
 go_enter Try.func15, Try.ntmps15
 go_wp2_with fail
 obtain ⟨W, g, hg, hW, hx, bA⟩ := Q49 w #[.slice a0 a1 a2, .slice b0 b1 b2] 25
 rw [hW, hg]
 have X := Lib.hid hx
 clear hW hg hx
 have C := Qe2 p _ W (HP.out.ext X.out)
 cases hh : Q24 p
 ·rw [hh] at C
  have Hh := Lib.hid hh
  clear hh
  (with_reducible refine C.mono ?_)
  rintro e w1 ⟨rfl, h1⟩
  have X := Lib.hid (X.out.trans h1)
  clear h1 C
  go_wp2
  go_ret
  exact ⟨Q2i (by unfold mayE; simp [Hh.out]), X.out⟩
 rw [hh] at C
 have Hh := Lib.hid hh
 clear hh
 (with_reducible refine C.mono ?_)
 rintro e w1 ⟨rfl, h1⟩
 have bA := bA.ext h1
 have X := Lib.hid (X.out.trans h1)
 have c0 : w1.cell? ⟨g, 0, none⟩ = some (.slice a0 a1 a2) := by rw [bA.cell]; rfl
 have c1 : w1.cell? ⟨g, 1, none⟩ = some (.slice b0 b1 b2) := by rw [bA.cell]; rfl
 clear h1 C
 go_wp2_with fail
 have C := Qdd p _ m vm w1 (HP.out.ext X.out) (HM.out.ext X.out)
 cases hh : Q25 p m
 ·rw [hh] at C
  have Hf := Lib.hid hh
  clear hh
  (with_reducible refine C.mono ?_)
  rintro e w2 ⟨rfl, h1⟩
  have X := Lib.hid (X.out.trans h1)
  clear h1 C
  go_wp2
  go_ret
  exact ⟨Q2i (by unfold mayE; simp [Hf.out]), X.out⟩
 rw [hh] at C
 have Hf := Lib.hid hh
 clear hh
 (with_reducible refine C.mono ?_)
 rintro e w2 ⟨rfl, h1⟩
 have X := Lib.hid (X.out.trans h1)
 clear h1 C c0 c1
 by_cases q0 : fuel < 0
 ·have Q := Lib.hid q0
  go_wp2
  go_ret
  exact ⟨Q2i (by unfold mayE; simp [Hh.out, Hf.out, Q.out]), X.out⟩
 have q0d : decide (fuel < 0) = false := by simpa using q0
 by_cases q1 : 40000 < fuel
 ·have Q := Lib.hid q1
  go_wp2
  go_ret
  exact ⟨Q2i (by unfold mayE; simp [Hh.out, Hf.out, Q.out]), X.out⟩
 have q1d : decide (40000 < fuel) = false := by simpa using q1
 have Q := Lib.hid (show ¬ (fuel < 0 ∨ 40000 < fuel) by omega)
 go_wp2
 go_ret
 exact ⟨Q2i (by unfold mayE; rw [if_neg (by simp [Hh.out, Hf.out]), if_neg Q.out]), X.out⟩
theorem Q36 {P : Program} {w : World} {g : Nat} {T t p ty : Nat} {cs : Array Value} {fn : Func} {d : TypeDesc} {v : Value} (h : Blk w g T cs) (hr : fn.results = #[.cell p ty, .tmp t]) (tmps : Array Value) (ht : tmps.getD t undef = v) (hp : tmps.getD p undef = .pointer (some ⟨g, 0, none⟩))
  (hu : P.underlying ty = some d) (hd : d.isRow = true) (hi : (P.info? ty).map (·.size) = some cs.size) : (results fn tmps).run P w = .ok (.tuple #[.agg cs, v]) w := by
 have hp' : tmps[p]?.getD undef = .pointer (some ⟨g, 0, none⟩) := by simpa using hp
 have ht' : tmps[t]?.getD undef = v := by simpa using ht
 have hc : w.rangeAt g 0 cs.toList := h.range 0 cs.toList (fun j v hv => by simpa using hv)
 have := run_loadVar_mid w g 0 ty cs.toList d hc hu hd (by simpa using hi)
 simp only [Array.toArray_toList] at this
 simp [results, hr, hp', ht', asAddr, this]
def Q3b (w : World) (g : Nat) : Nat := match w.cell? ⟨g, 4, none⟩ with
 | some (.int _ n) => n.toNat
 | _ => 0
theorem Q6d {w : World} {B g : Nat} {vR vC vM vB vS vW : Value} {bases : List Int} {M : Mach} (h : MSt w B g vR vC vM vB vS vW bases M) : Q3b w g = M.steps := by
 unfold Q3b
 rw [h.cells.2.2.2.2.1.1]
 simp
def Q75 (p : Q00) (m : List (List Int)) (fuel : Int) (F : Mach) (w : World) (e : Ending) (w' : World) : Prop :=
 ∃ u, e = .returned (.tuple #[u, .int .i64 (mayE p m fuel)]) ∧ Ext w w' ∧ (mayE p m fuel = 0 → Q1t w' u F.fin F.value F.steps F.seen (Q10 p F.words)) ∧ (mayE p m fuel ≠ 0 → Q1t w' u 0 0 0 [] [])
theorem Qcs (w : World) : Q1v w (.slice none 0 0) [] := ⟨none, 0, 0, 0, rfl, by simp, by decide, fun _ => undef, ⟨fun h => by simp at h, fun i j hi hj => by simp at hi⟩, fun i hi => by simp at hi⟩
theorem Q57 (w : World) : Q1t w (.agg #[.int .i64 0, .int .i64 0, .int .i64 0, .slice none 0 0, .slice none 0 0]) 0 0 0 [] [] := ⟨_, _, rfl, Qb2 w, Qcs w⟩
theorem Q55 {p : Q00} {F : Mach} {wB w0 w1 : World} {r : Nat} {vs vm x0 x1 x2 x3 x4 : Value} (hS : Q3h w1 wB.heap.size (.agg #[.int .i64 F.fin, .int .i64 F.value, .int .i64 F.steps, vs, vm]) F.fin F.value F.steps F.seen (Q10 p F.words)) (h64 : Q0y F.words)
  (hR : Blk w1 r 34 #[x0, x1, x2, x3, x4]) (hr : r < wB.heap.size) (hr0 : w0.heap.size ≤ r) (hx : Ext w0 wB) (hx1 : Ext wB w1) {w2 : World}
  (hw : w2 = ((((w1.setCell ⟨r, 0, none⟩ (.int .i64 F.fin)).setCell ⟨r, 1, none⟩ (.int .i64 F.value)).setCell ⟨r, 2, none⟩ (.int .i64 F.steps)).setCell ⟨r, 3, none⟩ vs).setCell ⟨r, 4, none⟩ vm) :
  Blk w2 r 34 #[.int .i64 F.fin, .int .i64 F.value, .int .i64 F.steps, vs, vm] ∧ Q1t w2 (.agg #[.int .i64 F.fin, .int .i64 F.value, .int .i64 F.steps, vs, vm]) F.fin F.value F.steps F.seen (Q10 p F.words) ∧ Ext w0 w2 := by
 subst hw
 refine ⟨((((hR.set_ 0 _).set_ 1 _).set_ 2 _).set_ 3 _).set_ 4 _, ?_, ?_⟩
 ·exact (((((hS.far (p := ⟨r, 0, none⟩) hr _).far (p := ⟨r, 1, none⟩) hr _).far (p := ⟨r, 2, none⟩) hr _).far (p := ⟨r, 3, none⟩) hr _).far (p := ⟨r, 4, none⟩) hr _).at_ (Q9q p _ R64 h64.mem)
 ·exact (((((hx.trans hx1).setCell hr0 _).setCell hr0 _).setCell hr0 _).setCell hr0 _).setCell hr0 _
set_option maxRecDepth 100000 in
set_option maxHeartbeats 8000000 in
theorem Q2y (p : Q00) (m : List (List Int)) (fuel : Int) (v vm : Value) (w : World) (hp : Q1u w v p) (hm : Q1v w vm m) (hf : R64 fuel) :
  Calls Try.prog 10 #[v, vm, .int .i64 fuel] w (Q75 p m fuel (runM p fuel.toNat (Q01 m.flatten)) w) := by
 have hm64 : ∀ l ∈ m, ∀ x ∈ l, R64 x := by
  obtain ⟨oa, cap, b, o, rfl, hc1, hc2, vs0, hrow, hin⟩ := hm
  intro l hl x hx
  obtain ⟨i, hi, rfl⟩ := List.getElem_of_mem hl
  have := (hin i hi).1
  simp only [List.getD_eq_getElem?_getD, List.getElem?_eq_getElem hi, Option.getD_some] at this
  exact this x hx
 have HP := Lib.hid hp
 have HM := Lib.hid hm
 have Hm64 := Lib.hid hm64
 have Hf := Lib.hid hf
 obtain ⟨o1, s1, o2, s2, rfl⟩ : ∃ a c b d, v = .agg #[.slice a p.regs.length c, .slice b p.code.length d] := by
  obtain ⟨v1, v2, rfl, ⟨-, oa, cap, b, o, rfl, -⟩, ⟨-, ob, capb, b2, o2, rfl, -⟩⟩ := hp
  exact ⟨_, _, _, _, rfl⟩
 clear hp hm hm64 hf
 generalize hF : runM p fuel.toNat (Q01 m.flatten) = F
 have HF := Lib.hid hF
 clear hF
 go_enter Try.func10, Try.ntmps10
 go_wp2_with fail
 obtain ⟨W, gb, hg, hW, hx, bP, bR⟩ := Q4v w #[.slice o1 p.regs.length s1, .slice o2 p.code.length s2] #[.int .i64 0, .int .i64 0, .int .i64 0, .slice none 0 0, .slice none 0 0] 25 34
 rw [hW, hg]
 have X := Lib.hid hx
 have hgb : w.heap.size ≤ gb := by omega
 clear hW hg hx
 have C := Q8w p m fuel _ vm W (HP.out.ext X.out) (HM.out.ext X.out) Hf.out
 (with_reducible refine C.mono ?_)
 clear C
 rintro e w1 ⟨rfl, hx⟩
 have bP := bP.ext hx
 have bR := bR.ext hx
 have X := Lib.hid (X.out.trans hx)
 have Hb := Lib.hid hgb
 have c0 : w1.cell? ⟨gb, 0, none⟩ = some (.slice o1 p.regs.length s1) := by rw [bP.cell]; rfl
 have c1 : w1.cell? ⟨gb, 1, none⟩ = some (.slice o2 p.code.length s2) := by rw [bP.cell]; rfl
 have r0 : w1.cell? ⟨gb + 1, 0, none⟩ = some (.int .i64 0) ∧ w1.frozen? ⟨gb + 1, 0, none⟩ = false := ⟨by rw [bR.cell]; rfl, bR.frozen _⟩
 have r1 : w1.cell? ⟨gb + 1, 1, none⟩ = some (.int .i64 0) ∧ w1.frozen? ⟨gb + 1, 1, none⟩ = false := ⟨by rw [bR.cell]; rfl, bR.frozen _⟩
 have r2 : w1.cell? ⟨gb + 1, 2, none⟩ = some (.int .i64 0) ∧ w1.frozen? ⟨gb + 1, 2, none⟩ = false := ⟨by rw [bR.cell]; rfl, bR.frozen _⟩
 have r3 : w1.cell? ⟨gb + 1, 3, none⟩ = some (.slice none 0 0) ∧ w1.frozen? ⟨gb + 1, 3, none⟩ = false := ⟨by rw [bR.cell]; rfl, bR.frozen _⟩
 have r4 : w1.cell? ⟨gb + 1, 4, none⟩ = some (.slice none 0 0) ∧ w1.frozen? ⟨gb + 1, 4, none⟩ = false := ⟨by rw [bR.cell]; rfl, bR.frozen _⟩
 clear hx hgb
 by_cases h0 : mayE p m fuel = 0
 ·obtain ⟨hh, hfit, hf0, hf4⟩ := Q6c h0
  have H0 := Lib.hid h0
  have Hh := Lib.hid hh
  have Hfit := Lib.hid hfit
  have Hgood := Lib.hid (Qcp hfit Hm64.out)
  rw [h0]
  go_wp2_with fail
  have hr := (Q30 hh).1
  have Hr := Lib.hid hr
  have C := Q9g p m (.slice o1 p.regs.length s1) (.slice o2 p.code.length s2) vm w1 (HM.out.ext X.out) hfit hr
  clear h0 hh hfit hr r0 r1 r2 r3 r4
  (with_reducible refine C.mono ?_)
  clear C
  rintro e w2 ⟨g, vB, vW, rfl, P0, hx0⟩
  have P0 := Lib.hid P0
  have X0 := Lib.hid hx0
  have BP0 := Lib.hid bP
  have BR0 := Lib.hid bR
  have Hfits : Hid (∀ i ∈ p.code, i.fits) := Lib.hid (by
   obtain ⟨v1, v2, hv, h1, h2⟩ := HP.out
   exact h2.1)
  have hrl := bR.lt
  clear hx0 c0 c1 bP bR
  go_wp2_with fail
  go_loopw [] (fun wr => ∃ (M : Mach) (vS : Value), M.steps ≤ fuel.toNat ∧ Q3w p M ∧ runM p (fuel.toNat - M.steps) M = F ∧ MSt wr w1.heap.size g (.slice o1 p.regs.length s1) (.slice o2 p.code.length s2) (.slice none 0 0) vB vS vW (Q0m p) M ∧ Ext w1 wr) (fun wr => fuel.toNat - Q3b wr g)
  case atStart =>
   exact ⟨Q01 m.flatten, _, by simp [Q01], Hgood.out, by simpa [Q01] using HF.out, P0.out, X0.out⟩
  case round =>
   obtain ⟨M, vS, hst, hgo, hrun, P, hE⟩ := hrel
   have Hgo := Lib.hid hgo
   have Hrun := Lib.hid hrun
   have PP := Lib.hid P
   have XE := Lib.hid hE
   have bP := BP0.out.ext hE
   have c1 : wr.cell? ⟨gb, 1, none⟩ = some (.slice o2 p.code.length s2) := by rw [bP.cell]; rfl
   obtain ⟨-, -, g2, -, g4, -, -, -, g18, -⟩ := P.cells
   have hgl := P.box.lt
   have hatle := hgo.at_
   have hsl := hgo.seen
   have Hmeas := Lib.hid (Q6d P)
   clear hgo hrun P hE bP
   by_cases hfin : M.fin = 0
   ·have Hfin := Lib.hid hfin
    rw [hfin] at g2
    clear hfin
    by_cases hlt : (M.steps : Int) < fuel
    ·by_cases hat : M.at_ < p.code.length
     ·have Hi := Lib.hid (show p.code[M.at_]? = some (p.code.getD M.at_ default) by simp [hat])
      have Hfi := Lib.hid (Hfits.out _ (Q1f hat))
      have hiok := (Q30 Hh.out).2.2.2 _ (Q1f hat)
      generalize p.code.getD M.at_ default = i at *
      have hN := Lib.hid (Qc2 Hgo.out Hi.out hiok Hfi.out (show M.steps < fuel.toNat by omega) Hfin.out Hrun.out)
      go_upto_region 6 with fail
      have k18 : ∀ W, Ext wr W → W.cell? ⟨g, 18, none⟩ = some (.int .i64 (M.at_ : Int)) := fun _ h => h.kept g18.1
      have k1 : ∀ W, Ext wr W → W.cell? ⟨gb, 1, none⟩ = some (.slice o2 p.code.length s2) := fun _ h => h.kept c1
      refine Q0s 9 (by kernel_rfl) (by kernel_rfl) ?_
      simp only [List.take_succ_cons, List.take_zero, List.drop_succ_cons, List.drop_zero]
      repeat (first | (refine Q0f ?_ ?_ (fun wc hE => ?_) ?_; (decide); rfl; (focus (go_simp; done)); go_simp) | (refine Q0a ?_ ?_ ?_; (decide); (first | rfl | (focus (go_simp; done))); apply Exists.intro; refine ⟨fun wc hE => ?_, ?_⟩; (go_simp; exact rfl); go_simp) | (refine Q0g ?_ ?_ ?_; (decide); (first | rfl | (focus (go_simp; done))); apply Exists.intro; refine ⟨fun wc hE => ?_, ?_⟩; (go_simp; (first | fail)); go_simp) | (refine Q0d ?_ ?_ ?_; (decide); (focus (go_simp; done)); go_simp))
      refine Q0e ?_
      intro wx hx
      clear k18 k1
      have PP := Lib.hid (PP.out.ext hx)
      have XE := Lib.hid (XE.out.trans hx)
      have g2 := Q07 hx g2
      have hgl := PP.out.box.lt
      clear hx
      have C := Q61 p i Hi.out Hh.out Hfi.out Hgo.out.ok (by omega) (by omega) wx (HP.out.ext X.out) XE.out PP.out
      have C := Lib.hid C
      have Hms : Hid ((Q04 p i M).steps = M.steps + 1) := Lib.hid (Q3y p i M)
      clear hiok
      go_wp2_with fail
      (with_reducible refine C.out.mono ?_)
      clear C
      rintro e w3 ⟨rfl, vS3, P3, X3⟩
      have P3 := Lib.hid P3
      have X3 := Lib.hid X3
      clear g2 g4 g18 c1
      go_wp2
      go_roundw
      case rel => exact ⟨Q04 p i M, vS3, hN.out.2.1, hN.out.1, hN.out.2.2, P3.out, X3.out⟩
      case measure =>
       have e1 := Hmeas.out
       have e2 := Q6d P3.out
       have e3 := Hms.out
       rw [e1, e2]; omega
     ·have hate : decide ((p.code.length : Int) ≤ (M.at_ : Int)) = true := by simp; omega
      have Hlast : Hid (F = { M with fin := 2 }) := Lib.hid (by rw [← Hrun.out]; exact Qbe (by omega) Hfin.out (by simp; omega))
      go_upto_region 6 with fail
      have k18 : ∀ W, Ext wr W → W.cell? ⟨g, 18, none⟩ = some (.int .i64 (M.at_ : Int)) := fun _ h => h.kept g18.1
      have k1 : ∀ W, Ext wr W → W.cell? ⟨gb, 1, none⟩ = some (.slice o2 p.code.length s2) := fun _ h => h.kept c1
      refine Q0s 9 (by kernel_rfl) (by kernel_rfl) ?_
      simp only [List.take_succ_cons, List.take_zero, List.drop_succ_cons, List.drop_zero]
      repeat (first | (refine Q0f ?_ ?_ (fun wc hE => ?_) ?_; (decide); rfl; (focus (go_simp; done)); go_simp) | (refine Q0a ?_ ?_ ?_; (decide); (first | rfl | (focus (go_simp; done))); apply Exists.intro; refine ⟨fun wc hE => ?_, ?_⟩; (go_simp; exact rfl); go_simp) | (refine Q0g ?_ ?_ ?_; (decide); (first | rfl | (focus (go_simp; done))); apply Exists.intro; refine ⟨fun wc hE => ?_, ?_⟩; (go_simp; (first | fail)); go_simp) | (refine Q0d ?_ ?_ ?_; (decide); (focus (go_simp; done)); go_simp))
      refine Q0e ?_
      intro wx hx
      clear k18 k1
      have PP := Lib.hid (PP.out.ext hx)
      have XE := Lib.hid (XE.out.trans hx)
      have g2 := Q07 hx g2
      have hgl := PP.out.box.lt
      clear hx
      have PE := Lib.hid (PP.out.fin_ 2)
      have XE := Lib.hid (XE.out.setCell (p := ⟨g, 2, none⟩) PP.out.hg (.int .i64 2))
      have HOK := Lib.hid (Hgo.out.ok.same (M' := { M with fin := 2 }) rfl rfl)
      have hgl2 : g < (wx.setCell ⟨g, 2, none⟩ (.int .i64 2)).heap.size := by rw [Q21]; exact hgl
      go_wp2_with fail
      have C := Q5t p Hr.out HOK.out _ (HP.out.ext X.out) XE.out PE.out
      (with_reducible refine C.mono ?_)
      clear C
      rintro e w4 ⟨u, rfl, hu, hx4⟩
      have HU := Lib.hid hu
      obtain ⟨vs, vm', U, rfl, hs1, hs2⟩ := hu
      obtain ⟨os, osc, rfl⟩ := Q0w hs1
      obtain ⟨om, omk, omc, rfl⟩ : ∃ a b c, vm' = .slice a b c := by
       obtain ⟨vs, h1, h2, -⟩ := hs2
       obtain ⟨a, c, h⟩ := Q0w h2
       exact ⟨a, _, c, h⟩
      have bR4 := BR0.out.ext hx4
      have r0 : w4.cell? ⟨gb + 1, 0, none⟩ = some (.int .i64 0) ∧ w4.frozen? ⟨gb + 1, 0, none⟩ = false := ⟨by rw [bR4.cell]; rfl, bR4.frozen _⟩
      have r1 : w4.cell? ⟨gb + 1, 1, none⟩ = some (.int .i64 0) ∧ w4.frozen? ⟨gb + 1, 1, none⟩ = false := ⟨by rw [bR4.cell]; rfl, bR4.frozen _⟩
      have r2 : w4.cell? ⟨gb + 1, 2, none⟩ = some (.int .i64 0) ∧ w4.frozen? ⟨gb + 1, 2, none⟩ = false := ⟨by rw [bR4.cell]; rfl, bR4.frozen _⟩
      have r3 : w4.cell? ⟨gb + 1, 3, none⟩ = some (.slice none 0 0) ∧ w4.frozen? ⟨gb + 1, 3, none⟩ = false := ⟨by rw [bR4.cell]; rfl, bR4.frozen _⟩
      have r4 : w4.cell? ⟨gb + 1, 4, none⟩ = some (.slice none 0 0) ∧ w4.frozen? ⟨gb + 1, 4, none⟩ = false := ⟨by rw [bR4.cell]; rfl, bR4.frozen _⟩
      have X4 := Lib.hid hx4
      have HW64 := Lib.hid HOK.out.w64
      clear hs1 hs2 hx4 g2 g4 g18 c1
      go_wp2
      have hE := Q55 (F := { M with fin := 2 }) HU.out HW64.out bR4 hrl (Nat.le_succ_of_le Hb.out) X.out X4.out rfl
      have HE := Lib.hid hE
      clear hE
      refine bodyPost_ret (Q36 (HE.out.1) rfl _ rfl rfl Try.underlying34 rfl (by kernel_rfl)) rfl ⟨_, by rw [H0.out]; rfl, HE.out.2.2, fun _ => ?_, fun h => absurd H0.out h⟩
      rw [Hlast.out]
      exact HE.out.2.1
    ·have hlt2 : decide ((M.steps : Int) < fuel) = false := by simpa using hlt
     have Hlast : Hid (F = M) := Lib.hid (by rw [← Hrun.out, show fuel.toNat - M.steps = 0 by omega]; rfl)
     have PE := PP
     have HOK := Lib.hid Hgo.out.ok
     clear hlt
     go_wp2_with fail
     have C := Q5t p Hr.out HOK.out _ (HP.out.ext X.out) XE.out PE.out
     (with_reducible refine C.mono ?_)
     clear C
     rintro e w4 ⟨u, rfl, hu, hx4⟩
     have HU := Lib.hid hu
     obtain ⟨vs, vm', U, rfl, hs1, hs2⟩ := hu
     obtain ⟨os, osc, rfl⟩ := Q0w hs1
     obtain ⟨om, omk, omc, rfl⟩ : ∃ a b c, vm' = .slice a b c := by
      obtain ⟨vs, h1, h2, -⟩ := hs2
      obtain ⟨a, c, h⟩ := Q0w h2
      exact ⟨a, _, c, h⟩
     have bR4 := BR0.out.ext hx4
     have r0 : w4.cell? ⟨gb + 1, 0, none⟩ = some (.int .i64 0) ∧ w4.frozen? ⟨gb + 1, 0, none⟩ = false := ⟨by rw [bR4.cell]; rfl, bR4.frozen _⟩
     have r1 : w4.cell? ⟨gb + 1, 1, none⟩ = some (.int .i64 0) ∧ w4.frozen? ⟨gb + 1, 1, none⟩ = false := ⟨by rw [bR4.cell]; rfl, bR4.frozen _⟩
     have r2 : w4.cell? ⟨gb + 1, 2, none⟩ = some (.int .i64 0) ∧ w4.frozen? ⟨gb + 1, 2, none⟩ = false := ⟨by rw [bR4.cell]; rfl, bR4.frozen _⟩
     have r3 : w4.cell? ⟨gb + 1, 3, none⟩ = some (.slice none 0 0) ∧ w4.frozen? ⟨gb + 1, 3, none⟩ = false := ⟨by rw [bR4.cell]; rfl, bR4.frozen _⟩
     have r4 : w4.cell? ⟨gb + 1, 4, none⟩ = some (.slice none 0 0) ∧ w4.frozen? ⟨gb + 1, 4, none⟩ = false := ⟨by rw [bR4.cell]; rfl, bR4.frozen _⟩
     have X4 := Lib.hid hx4
     have HW64 := Lib.hid HOK.out.w64
     clear hs1 hs2 hx4 g2 g4 g18 c1
     go_wp2
     have hE := Q55 (F := M) HU.out HW64.out bR4 hrl (Nat.le_succ_of_le Hb.out) X.out X4.out rfl
     have HE := Lib.hid hE
     clear hE
     refine bodyPost_ret (Q36 (HE.out.1) rfl _ rfl rfl Try.underlying34 rfl (by kernel_rfl)) rfl ⟨_, by rw [H0.out]; rfl, HE.out.2.2, fun _ => ?_, fun h => absurd H0.out h⟩
     rw [Hlast.out]
     exact HE.out.2.1
   ·have Hlast : Hid (F = M) := Lib.hid (by rw [← Hrun.out]; exact (Q82 hfin _).symm ▸ rfl)
    have PE := PP
    have HOK := Lib.hid Hgo.out.ok
    have hfd : (M.fin == (0 : Int)) = false := by simpa using hfin
    clear hfin
    go_wp2_with fail
    have C := Q5t p Hr.out HOK.out _ (HP.out.ext X.out) XE.out PE.out
    (with_reducible refine C.mono ?_)
    clear C
    rintro e w4 ⟨u, rfl, hu, hx4⟩
    have HU := Lib.hid hu
    obtain ⟨vs, vm', U, rfl, hs1, hs2⟩ := hu
    obtain ⟨os, osc, rfl⟩ := Q0w hs1
    obtain ⟨om, omk, omc, rfl⟩ : ∃ a b c, vm' = .slice a b c := by
     obtain ⟨vs, h1, h2, -⟩ := hs2
     obtain ⟨a, c, h⟩ := Q0w h2
     exact ⟨a, _, c, h⟩
    have bR4 := BR0.out.ext hx4
    have r0 : w4.cell? ⟨gb + 1, 0, none⟩ = some (.int .i64 0) ∧ w4.frozen? ⟨gb + 1, 0, none⟩ = false := ⟨by rw [bR4.cell]; rfl, bR4.frozen _⟩
    have r1 : w4.cell? ⟨gb + 1, 1, none⟩ = some (.int .i64 0) ∧ w4.frozen? ⟨gb + 1, 1, none⟩ = false := ⟨by rw [bR4.cell]; rfl, bR4.frozen _⟩
    have r2 : w4.cell? ⟨gb + 1, 2, none⟩ = some (.int .i64 0) ∧ w4.frozen? ⟨gb + 1, 2, none⟩ = false := ⟨by rw [bR4.cell]; rfl, bR4.frozen _⟩
    have r3 : w4.cell? ⟨gb + 1, 3, none⟩ = some (.slice none 0 0) ∧ w4.frozen? ⟨gb + 1, 3, none⟩ = false := ⟨by rw [bR4.cell]; rfl, bR4.frozen _⟩
    have r4 : w4.cell? ⟨gb + 1, 4, none⟩ = some (.slice none 0 0) ∧ w4.frozen? ⟨gb + 1, 4, none⟩ = false := ⟨by rw [bR4.cell]; rfl, bR4.frozen _⟩
    have X4 := Lib.hid hx4
    have HW64 := Lib.hid HOK.out.w64
    clear hs1 hs2 hx4 g2 g4 g18 c1
    go_wp2
    have hE := Q55 (F := M) HU.out HW64.out bR4 hrl (Nat.le_succ_of_le Hb.out) X.out X4.out rfl
    have HE := Lib.hid hE
    clear hE
    refine bodyPost_ret (Q36 (HE.out.1) rfl _ rfl rfl Try.underlying34 rfl (by kernel_rfl)) rfl ⟨_, by rw [H0.out]; rfl, HE.out.2.2, fun _ => ?_, fun h => absurd H0.out h⟩
    rw [Hlast.out]
    exact HE.out.2.1
 ·have H0 := Lib.hid h0
  have hne : (mayE p m fuel != 0) = true := by simpa using h0
  generalize hc : mayE p m fuel = c at *
  clear h0
  go_wp2
  have hBk := ((((bR.set_ 0 (.int .i64 0)).set_ 1 (.int .i64 0)).set_ 2 (.int .i64 0)).set_ 3 (.slice none 0 0)).set_ 4 (.slice none 0 0)
  have hg0 : w.heap.size ≤ gb + 1 := Nat.le_succ_of_le Hb.out
  exact bodyPost_ret (Q36 hBk rfl _ rfl rfl Try.underlying34 rfl (by kernel_rfl)) rfl ⟨_, by rw [hc]; rfl, ((((X.out.setCell hg0 _).setCell hg0 _).setCell hg0 _).setCell hg0 _).setCell hg0 _, fun h => absurd (hc.symm.trans h) H0.out, fun _ => Q57 _⟩
theorem made_get' (z : Array Value) (n j : Nat) (hj : j < n) : (madeCells z n)[j]? = some z[j % z.size]! := by simp [madeCells, hj]
section
variable {wB w w' : World} {g : Nat} {vG vC : Value} {V : RV} {S : Spc}
end
section
variable {wB w w' : World} {g : Nat} {vG vC vM : Value} {V : RV} {S : Spc} {ms : List (List Int)} {us : List Value}
end
def Q2h (l : List Int) : Bool := decide (l.length ≤ 2000) && l.all fun x => decide (0 ≤ x)
theorem Q95 {oa : Option Addr} {n b o cap : Nat} (h : 0 < n → oa = some ⟨b, o, none⟩) (W : World) (i : Int) (h0 : 0 ≤ i) (h1 : i < n) :
  (Instr.indexAt 32 (.slice oa n cap) (.int .i64 i)).run Try.prog W = .ok (.pointer (some ⟨b, o + i.toNat * 3, none⟩)) W := by
 obtain rfl := h (by omega)
 have hs : (Try.prog.info? 45).map (·.size) = some 3 := by kernel_rfl
 simp [Instr.indexAt, run_underlying Try.underlying32, asIntOf, h0, h1]
 exact Q2t b o _
theorem Qb3 (a b c : Int) (w : World) : (binOp .neq 45 (.agg #[.int .i64 a, .int .i64 b, .int .i64 c]) (.agg #[.int .i64 a, .int .i64 b, .int .i64 c])).run Try.prog w = .ok (.bool false) w := by
 go_simp
set_option maxHeartbeats 2000000 in
theorem Qbq (l : List LSee) (v u : Value) (w : World) (hv : Q3i w v l) (hu : Q3i w u l) :
  Calls Try.prog 23 #[v, u] w fun e w' => e = .returned (.bool true) ∧ Ext w w' := by
 obtain ⟨oa, cap, b, o, rfl, hc1, hc2, hrow⟩ := hv
 obtain ⟨ob, capb, b2, o2, rfl, hd1, hd2, hrow2⟩ := hu
 have hlen := Q2c hc1 hc2
 have hix := Q95 (cap := cap) hrow.at_
 have hix2 := Q95 (cap := capb) hrow2.at_
 have Hrow := Lib.hid hrow
 have Hrow2 := Lib.hid hrow2
 have hne := Qb3
 have hq1 : ((l.length : Int) != (l.length : Int)) = false := by simp
 clear hrow hrow2 hc1 hc2 hd1 hd2
 go_enter Try.func23, Try.ntmps23
 go_wp2_with fail
 go_loopw [5] (fun i wr => ∃ j : Nat, j ≤ l.length ∧ i = .int .i64 j ∧ Ext w wr) (fun i _ => l.length - (intOf i).toNat)
 case atStart => exact ⟨0, by omega, rfl, Ext.refl _⟩
 case round =>
  obtain ⟨j, hj, rfl, hE⟩ := hrel
  have X := Lib.hid hE
  clear hE
  by_cases hlt : j < l.length
  ·obtain ⟨e0, e1, e2⟩ := (Hrow.out.ext X.out).see j hlt
   obtain ⟨f0, f1, f2⟩ := (Hrow2.out.ext X.out).see j hlt
   generalize l.getD j default = x at *
   have k0 : ∀ W, Ext wr W → W.cell? ⟨b, o + j * 3, none⟩ = some (.int .i64 x.kind) := fun _ h => h.kept e0
   have k1 : ∀ W, Ext wr W → W.cell? ⟨b, o + j * 3 + 1, none⟩ = some (.int .i64 x.a) := fun _ h => h.kept e1
   have k2 : ∀ W, Ext wr W → W.cell? ⟨b, o + j * 3 + 2, none⟩ = some (.int .i64 x.b) := fun _ h => h.kept e2
   have l0 : ∀ W, Ext wr W → W.cell? ⟨b2, o2 + j * 3, none⟩ = some (.int .i64 x.kind) := fun _ h => h.kept f0
   have l1 : ∀ W, Ext wr W → W.cell? ⟨b2, o2 + j * 3 + 1, none⟩ = some (.int .i64 x.a) := fun _ h => h.kept f1
   have l2 : ∀ W, Ext wr W → W.cell? ⟨b2, o2 + j * 3 + 2, none⟩ = some (.int .i64 x.b) := fun _ h => h.kept f2
   clear e0 e1 e2 f0 f1 f2
   go_upto_region 6 with fail
   refine Q0s 9 (by kernel_rfl) (by kernel_rfl) ?_
   simp only [List.take_succ_cons, List.take_zero, List.drop_succ_cons, List.drop_zero]
   repeat (first | (refine Q0f ?_ ?_ (fun wc hE => ?_) ?_; (decide); rfl; (focus (go_simp; done)); go_simp) | (refine Q0a ?_ ?_ ?_; (decide); (first | rfl | (focus (go_simp; done))); apply Exists.intro; refine ⟨fun wc hE => ?_, ?_⟩; (go_simp; exact rfl); go_simp) | (refine Q0g ?_ ?_ ?_; (decide); (first | rfl | (focus (go_simp; done))); apply Exists.intro; refine ⟨fun wc hE => ?_, ?_⟩; (go_simp; (first | fail)); go_simp) | (refine Q0d ?_ ?_ ?_; (decide); (focus (go_simp; done)); go_simp))
   refine Q0e ?_
   intro wx hx
   have X := Lib.hid (X.out.trans hx)
   clear hx k0 k1 k2 l0 l1 l2
   go_wp2
   go_roundw
   case rel => exact ⟨j + 1, by omega, by go_num, X.out⟩
   case measure => first | (simp [intOf]; done) | (simp [intOf]; omega)
  ·go_wp2
   go_ret
   exact ⟨rfl, X.out⟩
theorem Qdz (x : Int) : (x != x) = false := by simp
set_option maxHeartbeats 4000000 in
theorem Qbr (m : List (List Int)) (v u : Value) (w : World) (hv : Q1v w v m) (hu : Q1v w u m) :
  Calls Try.prog 12 #[v, u] w fun e w' => e = .returned (.bool true) ∧ Ext w w' := by
 obtain ⟨oa, cap, b, o, rfl, hc1, hc2, vs, hrow, hin⟩ := hv
 obtain ⟨ob, capb, b2, o2, rfl, hd1, hd2, us, hrow2, hin2⟩ := hu
 have hlen := Q2c hc1 hc2
 have hix := index_mem' (cap := cap) hrow.at_
 have hix2 := index_mem' (cap := capb) hrow2.at_
 have Hrow := Lib.hid hrow
 have Hrow2 := Lib.hid hrow2
 have Hin := Lib.hid hin
 have Hin2 := Lib.hid hin2
 have hne := Qdz
 have hq1 : ((m.length : Int) != (m.length : Int)) = false := by simp
 clear hrow hrow2 hc1 hc2 hd1 hd2 hin hin2
 go_enter Try.func12, Try.ntmps12
 go_wp2_with fail
 go_loopw [5] (fun i wr => ∃ j : Nat, j ≤ m.length ∧ i = .int .i64 j ∧ Ext w wr) (fun i _ => m.length - (intOf i).toNat)
 case atStart => exact ⟨0, by omega, rfl, Ext.refl _⟩
 case round =>
  obtain ⟨j, hj, rfl, hE⟩ := hrel
  have X := Lib.hid hE
  clear hE
  by_cases hlt : j < m.length
  ·have e0 := (Hrow.out.ext X.out).one j hlt
   have f0 := (Hrow2.out.ext X.out).one j hlt
   have h1 := (Hin.out j hlt).ext X.out
   have h2 := (Hin2.out j hlt).ext X.out
   generalize m.getD j default = l at *
   generalize vs j = vj at *
   generalize us j = uj at *
   obtain ⟨-, oc, capc, b3, o3, rfl, hc3, hc4, r3⟩ := h1
   obtain ⟨-, od, capd, b4, o4, rfl, hd3, hd4, r4⟩ := h2
   have hlen2 := Q2c hc3 hc4
   have hq2 : ((l.length : Int) != (l.length : Int)) = false := by simp
   have hiy := Q6l (cap := capc) r3.at_
   have hiy2 := Q6l (cap := capd) r4.at_
   have R3 := Lib.hid r3
   have R4 := Lib.hid r4
   have k0 : ∀ W, Ext wr W → W.cell? ⟨b, o + j, none⟩ = some (.slice oc l.length capc) := fun _ h => h.kept e0
   have k1 : ∀ W, Ext wr W → W.cell? ⟨b2, o2 + j, none⟩ = some (.slice od l.length capd) := fun _ h => h.kept f0
   clear r3 r4 hc3 hc4 hd3 hd4
   go_upto_region 6 with fail
   refine Q0s 11 (by kernel_rfl) (by kernel_rfl) ?_
   simp only [List.take_succ_cons, List.take_zero, List.drop_succ_cons, List.drop_zero]
   repeat (first | (refine Q0f ?_ ?_ (fun wc hE => ?_) ?_; (decide); rfl; (focus (go_simp; done)); go_simp) | (refine Q0a ?_ ?_ ?_; (decide); (first | rfl | (focus (go_simp; done))); apply Exists.intro; refine ⟨fun wc hE => ?_, ?_⟩; (go_simp; exact rfl); go_simp) | (refine Q0g ?_ ?_ ?_; (decide); (first | rfl | (focus (go_simp; done))); apply Exists.intro; refine ⟨fun wc hE => ?_, ?_⟩; (go_simp; (first | fail)); go_simp) | (refine Q0d ?_ ?_ ?_; (decide); (focus (go_simp; done)); go_simp))
   refine Q0e ?_
   intro wx hx
   have HE := Lib.hid hx
   have X := Lib.hid (X.out.trans hx)
   clear k0 k1
   have e0 := hx.kept e0
   have f0 := hx.kept f0
   clear hx
   go_wp2_with fail
   obtain ⟨w1, hw1⟩ : ∃ w1, w1 = wx := ⟨_, rfl⟩
   subst hw1
   go_loopw [6] (fun i wr => ∃ k : Nat, k ≤ l.length ∧ i = .int .i64 k ∧ Ext w1 wr) (fun i _ => l.length - (intOf i).toNat)
   case atStart => exact ⟨0, by omega, rfl, Ext.refl _⟩
   case round =>
    obtain ⟨k, hk, rfl, hE⟩ := hrel
    have e0 := hE.kept e0
    have f0 := hE.kept f0
    have HE2 := Lib.hid (HE.out.trans hE)
    have HE1 := Lib.hid hE
    clear hE
    by_cases hltk : k < l.length
    ·have e1 := (R3.out.ext HE2.out).one k hltk
     have f1 := (R4.out.ext HE2.out).one k hltk
     generalize l.getD k default = x at *
     have k0 : ∀ W, Ext wr W → W.cell? ⟨b, o + j, none⟩ = some (.slice oc l.length capc) := fun _ h => h.kept e0
     have k1 : ∀ W, Ext wr W → W.cell? ⟨b2, o2 + j, none⟩ = some (.slice od l.length capd) := fun _ h => h.kept f0
     have k2 : ∀ W, Ext wr W → W.cell? ⟨b3, o3 + k, none⟩ = some (.int .i64 x) := fun _ h => h.kept e1
     have k3 : ∀ W, Ext wr W → W.cell? ⟨b4, o4 + k, none⟩ = some (.int .i64 x) := fun _ h => h.kept f1
     clear f0 e1 f1
     go_upto_region 11 with fail
     refine Q0s 15 (by kernel_rfl) (by kernel_rfl) ?_
     simp only [List.take_succ_cons, List.take_zero, List.drop_succ_cons, List.drop_zero]
     repeat (first | (refine Q0f ?_ ?_ (fun wc hE => ?_) ?_; (decide); rfl; (focus (go_simp; done)); go_simp) | (refine Q0a ?_ ?_ ?_; (decide); (first | rfl | (focus (go_simp; done))); apply Exists.intro; refine ⟨fun wc hE => ?_, ?_⟩; (go_simp; exact rfl); go_simp) | (refine Q0g ?_ ?_ ?_; (decide); (first | rfl | (focus (go_simp; done))); apply Exists.intro; refine ⟨fun wc hE => ?_, ?_⟩; (go_simp; (first | fail)); go_simp) | (refine Q0d ?_ ?_ ?_; (decide); (focus (go_simp; done)); go_simp))
     refine Q0e ?_
     intro wy hy
     have HE1 := Lib.hid (HE1.out.trans hy)
     clear hy k0 k1 k2 k3 e0
     go_wp2
     go_roundw
     case rel => exact ⟨k + 1, by omega, by go_num, HE1.out⟩
     case measure => first | (simp [intOf]; done) | (simp [intOf]; omega)
    ·have hje : k = l.length := by omega
     subst hje
     have hlt2 : decide ((l.length : Int) < (l.length : Int)) = false := by simp
     go_wp2
     go_roundw
     case rel => exact ⟨j + 1, by omega, by go_num, X.out.trans HE1.out⟩
     case measure => first | (simp [intOf]; done) | (simp [intOf]; omega)
  ·have hje : j = m.length := by omega
   subst hje
   have hlt2 : decide ((m.length : Int) < (m.length : Int)) = false := by simp
   go_wp2
   go_ret
   exact ⟨rfl, X.out⟩
set_option maxHeartbeats 4000000 in
theorem Q8a (v u : Value) (fin value : Int) (steps : Nat) (seen : List LSee) (mem : List (List Int)) (w : World) (hv : Q1t w v fin value steps seen mem) (hu : Q1t w u fin value steps seen mem) :
  Calls Try.prog 11 #[v, u] w fun e w' => e = .returned (.bool true) ∧ Ext w w' := by
 obtain ⟨vs, vm, rfl, hs, hm⟩ := hv
 obtain ⟨us, um, rfl, hs2, hm2⟩ := hu
 have Hs := Lib.hid hs
 have Hm := Lib.hid hm
 have Hs2 := Lib.hid hs2
 have Hm2 := Lib.hid hm2
 have hqa : ∀ x : Int, (x == x) = true := by simp
 clear hs hm hs2 hm2
 go_enter Try.func11, Try.ntmps11
 go_wp2_with fail
 obtain ⟨W, g, hg, hW, hx, bA, bB⟩ := Q4v w #[.int .i64 fin, .int .i64 value, .int .i64 steps, vs, vm] #[.int .i64 fin, .int .i64 value, .int .i64 steps, us, um] 34 34
 rw [hW, hg]
 have X := Lib.hid hx
 have k4 : W.cell? ⟨g, 4, none⟩ = some vm := by rw [bA.cell]; rfl
 have l4 : W.cell? ⟨g + 1, 4, none⟩ = some um := by rw [bB.cell]; rfl
 clear hW hg hx bA bB
 (with_reducible refine (Qbq seen vs us W (Hs.out.ext X.out) (Hs2.out.ext X.out)).mono ?_)
 rintro e w1 ⟨rfl, hx⟩
 have X := Lib.hid (X.out.trans hx)
 have k4 := hx.kept k4
 have l4 := hx.kept l4
 clear hx
 go_wp2_with fail
 (with_reducible refine (Qbr mem vm um w1 (Hm.out.ext X.out) (Hm2.out.ext X.out)).mono ?_)
 rintro e w2 ⟨rfl, hx⟩
 have X := Lib.hid (X.out.trans hx)
 clear hx k4 l4
 go_wp2
 go_ret
 exact ⟨rfl, X.out⟩
theorem Q56 {w : World} {v : Value} {fin value : Int} {steps : Nat} {seen : List LSee} {mem : List (List Int)} (h : Q1t w v fin value steps seen mem) :
  ∃ a c b d, v = .agg #[.int .i64 fin, .int .i64 value, .int .i64 steps, .slice a seen.length c, .slice b mem.length d] := by
 obtain ⟨vs, vm, rfl, ⟨oa, cap, b, o, rfl, -⟩, ⟨ob, capb, b2, o2, rfl, -⟩⟩ := h
 exact ⟨_, _, _, _, rfl⟩
end Go.Proofs.Ytceocimckkgaoaa
