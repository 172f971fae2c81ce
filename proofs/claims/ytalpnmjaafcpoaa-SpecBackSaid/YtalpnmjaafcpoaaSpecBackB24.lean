/- Laid together from: Seq7, Play5, Play6, Ref3e, SeqR. -/
import Derived.Test.YtalpnmjaafcpoaaSpecBackB23
import Derived.Test.YtalpnmjaafcpoaaSpecBackB20
import Derived.Test.YtalpnmjaafcpoaaSpecBackB22
import Derived.Test.YtalpnmjaafcpoaaSpecBackB21

namespace Go.Proofs.Ytalpnmjaafcpoaa
open Go.ChangeShapes Go.WideShapes Go.ChangeAt Go.RowKit
set_option linter.unusedVariables false
set_option linter.unusedSimpArgs false
def mayE (p : Q00) (m : List (List Int)) (fuel : Int) : Int := if (Q23 p && Q24 p m) = false then 2 else if fuel < 0 ∨ 40000 < fuel then 3 else 0
theorem Q6h {p : Q00} {m : List (List Int)} {fuel : Int} (h : mayE p m fuel = 0) : Q23 p = true ∧ Q24 p m = true ∧ 0 ≤ fuel ∧ fuel ≤ 40000 := by
 unfold mayE at h
 split at h
 ·cases h
 ·rename_i h1
  split at h
  ·cases h
  ·rename_i h2
   simp only [Bool.not_eq_false, Bool.and_eq_true] at h1
   exact ⟨h1.1, h1.2, by omega, by omega⟩
set_option maxHeartbeats 1000000 in
theorem Q90 (p : Q00) (m : List (List Int)) (fuel : Int) (v vm : Value) (w : World) (hp : Q1v w v p) (hm : Q1k w vm m) (hf : R64 fuel) :
  Calls Try.prog 15 #[v, vm, .int .i64 fuel] w fun e w' => e = .returned (.int .i64 (mayE p m fuel)) ∧ Ext w w' := by
 have HP := Lib.hid hp
 have HM := Lib.hid hm
 obtain ⟨a0, a1, a2, b0, b1, b2, rfl⟩ := Q8j hp
 have hf0 := hf.1
 have hf1 := hf.2
 clear hp hm
 go_enter Try.func15, Try.ntmps15
 go_wp2_with fail
 obtain ⟨W, g, hg, hW, hx, bA⟩ := Q3h w #[.slice a0 a1 a2, .slice b0 b1 b2] 25
 rw [hW, hg]
 have X := Lib.hid hx
 clear hW hg hx
 have C := Qdz p _ W (HP.out.ext X.out)
 cases hh : Q23 p
 ·rw [hh] at C
  have Hh := Lib.hid hh
  clear hh
  (with_reducible refine C.mono ?_)
  rintro e w1 ⟨rfl, h1⟩
  have X := Lib.hid (X.out.trans h1)
  clear h1 C
  go_wp2
  go_ret
  exact ⟨Q2g (by unfold mayE; simp [Hh.out]), X.out⟩
 rw [hh] at C
 have Hh := Lib.hid hh
 clear hh
 (with_reducible refine C.mono ?_)
 rintro e w1 ⟨rfl, h1⟩
 have bA := bA.ext h1
 have X := Lib.hid (X.out.trans h1)
 have c0 : w1.cell? ⟨g, 0, none⟩ = some (.slice a0 a1 a2) := by rw [bA.cell]; rfl
 have c1 : w1.cell? ⟨g, 1, none⟩ = some (.slice b0 b1 b2) := by rw [bA.cell]; rfl
 clear h1 C
 go_wp2_with fail
 have C := Qd9 p _ m vm w1 (HP.out.ext X.out) (HM.out.ext X.out)
 cases hh : Q24 p m
 ·rw [hh] at C
  have Hf := Lib.hid hh
  clear hh
  (with_reducible refine C.mono ?_)
  rintro e w2 ⟨rfl, h1⟩
  have X := Lib.hid (X.out.trans h1)
  clear h1 C
  go_wp2
  go_ret
  exact ⟨Q2g (by unfold mayE; simp [Hf.out]), X.out⟩
 rw [hh] at C
 have Hf := Lib.hid hh
 clear hh
 (with_reducible refine C.mono ?_)
 rintro e w2 ⟨rfl, h1⟩
 have X := Lib.hid (X.out.trans h1)
 clear h1 C c0 c1
 by_cases q0 : fuel < 0
 ·have Q := Lib.hid q0
  go_wp2
  go_ret
  exact ⟨Q2g (by unfold mayE; simp [Hh.out, Hf.out, Q.out]), X.out⟩
 have q0d : decide (fuel < 0) = false := by simpa using q0
 by_cases q1 : 40000 < fuel
 ·have Q := Lib.hid q1
  go_wp2
  go_ret
  exact ⟨Q2g (by unfold mayE; simp [Hh.out, Hf.out, Q.out]), X.out⟩
 have q1d : decide (40000 < fuel) = false := by simpa using q1
 have Q := Lib.hid (show ¬ (fuel < 0 ∨ 40000 < fuel) by omega)
 go_wp2
 go_ret
 exact ⟨Q2g (by unfold mayE; rw [if_neg (by simp [Hh.out, Hf.out]), if_neg Q.out]), X.out⟩
theorem Q37 {P : Program} {w : World} {g : Nat} {T t p ty : Nat} {cs : Array Value} {fn : Func} {d : TypeDesc} {v : Value} (h : Blk w g T cs) (hr : fn.results = #[.cell p ty, .tmp t]) (tmps : Array Value) (ht : tmps.getD t undef = v) (hp : tmps.getD p undef = .pointer (some ⟨g, 0, none⟩))
  (hu : P.underlying ty = some d) (hd : d.isRow = true) (hi : (P.info? ty).map (·.size) = some cs.size) : (results fn tmps).run P w = .ok (.tuple #[.agg cs, v]) w := by
 have hp' : tmps[p]?.getD undef = .pointer (some ⟨g, 0, none⟩) := by simpa using hp
 have ht' : tmps[t]?.getD undef = v := by simpa using ht
 have hc : w.rangeAt g 0 cs.toList := h.range 0 cs.toList (fun j v hv => by simpa using hv)
 have := run_loadVar_mid w g 0 ty cs.toList d hc hu hd (by simpa using hi)
 simp only [Array.toArray_toList] at this
 simp [results, hr, hp', ht', asAddr, this]
def Q3b (w : World) (g : Nat) : Nat := match w.cell? ⟨g, 4, none⟩ with
 | some (.int _ n) => n.toNat
 | _ => 0
theorem Q6i {w : World} {B g : Nat} {vR vC vM vB vS vW : Value} {bases : List Int} {M : Mach} (h : MSt w B g vR vC vM vB vS vW bases M) : Q3b w g = M.steps := by
 unfold Q3b
 rw [h.cells.2.2.2.2.1.1]
 simp
def Q7a (p : Q00) (m : List (List Int)) (fuel : Int) (F : Mach) (w : World) (e : Ending) (w' : World) : Prop :=
 ∃ u, e = .returned (.tuple #[u, .int .i64 (mayE p m fuel)]) ∧ Ext w w' ∧ (mayE p m fuel = 0 → Q1z w' u F.fin F.value F.steps F.seen (Q0v p F.words)) ∧ (mayE p m fuel ≠ 0 → Q1z w' u 0 0 0 [] [])
theorem Qco (w : World) : Q1k w (.slice none 0 0) [] := ⟨none, 0, 0, 0, rfl, by simp, by decide, fun _ => undef, ⟨fun h => by simp at h, fun i j hi hj => by simp at hi⟩, fun i hi => by simp at hi⟩
theorem Q57 (w : World) : Q1z w (.agg #[.int .i64 0, .int .i64 0, .int .i64 0, .slice none 0 0, .slice none 0 0]) 0 0 0 [] [] := ⟨_, _, rfl, Qb1 w, Qco w⟩
theorem Q55 {p : Q00} {F : Mach} {wB w0 w1 : World} {r : Nat} {vs vm x0 x1 x2 x3 x4 : Value} (hS : Q3i w1 wB.heap.size (.agg #[.int .i64 F.fin, .int .i64 F.value, .int .i64 F.steps, vs, vm]) F.fin F.value F.steps F.seen (Q0v p F.words)) (h64 : Q0z F.words)
  (hR : Blk w1 r 30 #[x0, x1, x2, x3, x4]) (hr : r < wB.heap.size) (hr0 : w0.heap.size ≤ r) (hx : Ext w0 wB) (hx1 : Ext wB w1) {w2 : World}
  (hw : w2 = ((((w1.setCell ⟨r, 0, none⟩ (.int .i64 F.fin)).setCell ⟨r, 1, none⟩ (.int .i64 F.value)).setCell ⟨r, 2, none⟩ (.int .i64 F.steps)).setCell ⟨r, 3, none⟩ vs).setCell ⟨r, 4, none⟩ vm) :
  Blk w2 r 30 #[.int .i64 F.fin, .int .i64 F.value, .int .i64 F.steps, vs, vm] ∧ Q1z w2 (.agg #[.int .i64 F.fin, .int .i64 F.value, .int .i64 F.steps, vs, vm]) F.fin F.value F.steps F.seen (Q0v p F.words) ∧ Ext w0 w2 := by
 subst hw
 refine ⟨((((hR.set_ 0 _).set_ 1 _).set_ 2 _).set_ 3 _).set_ 4 _, ?_, ?_⟩
 ·exact (((((hS.far (p := ⟨r, 0, none⟩) hr _).far (p := ⟨r, 1, none⟩) hr _).far (p := ⟨r, 2, none⟩) hr _).far (p := ⟨r, 3, none⟩) hr _).far (p := ⟨r, 4, none⟩) hr _).at_ (Q9r p _ R64 h64.mem)
 ·exact (((((hx.trans hx1).setCell hr0 _).setCell hr0 _).setCell hr0 _).setCell hr0 _).setCell hr0 _
set_option maxRecDepth 100000 in
set_option maxHeartbeats 8000000 in
theorem Q2s (p : Q00) (m : List (List Int)) (fuel : Int) (v vm : Value) (w : World) (hp : Q1v w v p) (hm : Q1k w vm m) (hf : R64 fuel) :
  Calls Try.prog 13 #[v, vm, .int .i64 fuel] w (Q7a p m fuel (runM p fuel.toNat (Q01 m.flatten)) w) := by
 have hm64 : ∀ l ∈ m, ∀ x ∈ l, R64 x := by
  obtain ⟨oa, cap, b, o, rfl, hc1, hc2, vs0, hrow, hin⟩ := hm
  intro l hl x hx
  obtain ⟨i, hi, rfl⟩ := List.getElem_of_mem hl
  have := (hin i hi).1
  simp only [List.getD_eq_getElem?_getD, List.getElem?_eq_getElem hi, Option.getD_some] at this
  exact this x hx
 have HP := Lib.hid hp
 have HM := Lib.hid hm
 have Hm64 := Lib.hid hm64
 have Hf := Lib.hid hf
 obtain ⟨o1, s1, o2, s2, rfl⟩ : ∃ a c b d, v = .agg #[.slice a p.regs.length c, .slice b p.code.length d] := by
  obtain ⟨v1, v2, rfl, ⟨-, oa, cap, b, o, rfl, -⟩, ⟨-, ob, capb, b2, o2, rfl, -⟩⟩ := hp
  exact ⟨_, _, _, _, rfl⟩
 clear hp hm hm64 hf
 generalize hF : runM p fuel.toNat (Q01 m.flatten) = F
 have HF := Lib.hid hF
 clear hF
 go_enter Try.func13, Try.ntmps13
 go_wp2_with fail
 obtain ⟨W, gb, hg, hW, hx, bP, bR⟩ := Q5u w #[.slice o1 p.regs.length s1, .slice o2 p.code.length s2] #[.int .i64 0, .int .i64 0, .int .i64 0, .slice none 0 0, .slice none 0 0] 25 30
 rw [hW, hg]
 have X := Lib.hid hx
 have hgb : w.heap.size ≤ gb := by omega
 clear hW hg hx
 have C := Q90 p m fuel _ vm W (HP.out.ext X.out) (HM.out.ext X.out) Hf.out
 (with_reducible refine C.mono ?_)
 clear C
 rintro e w1 ⟨rfl, hx⟩
 have bP := bP.ext hx
 have bR := bR.ext hx
 have X := Lib.hid (X.out.trans hx)
 have Hb := Lib.hid hgb
 have c0 : w1.cell? ⟨gb, 0, none⟩ = some (.slice o1 p.regs.length s1) := by rw [bP.cell]; rfl
 have c1 : w1.cell? ⟨gb, 1, none⟩ = some (.slice o2 p.code.length s2) := by rw [bP.cell]; rfl
 have r0 : w1.cell? ⟨gb + 1, 0, none⟩ = some (.int .i64 0) ∧ w1.frozen? ⟨gb + 1, 0, none⟩ = false := ⟨by rw [bR.cell]; rfl, bR.frozen _⟩
 have r1 : w1.cell? ⟨gb + 1, 1, none⟩ = some (.int .i64 0) ∧ w1.frozen? ⟨gb + 1, 1, none⟩ = false := ⟨by rw [bR.cell]; rfl, bR.frozen _⟩
 have r2 : w1.cell? ⟨gb + 1, 2, none⟩ = some (.int .i64 0) ∧ w1.frozen? ⟨gb + 1, 2, none⟩ = false := ⟨by rw [bR.cell]; rfl, bR.frozen _⟩
 have r3 : w1.cell? ⟨gb + 1, 3, none⟩ = some (.slice none 0 0) ∧ w1.frozen? ⟨gb + 1, 3, none⟩ = false := ⟨by rw [bR.cell]; rfl, bR.frozen _⟩
 have r4 : w1.cell? ⟨gb + 1, 4, none⟩ = some (.slice none 0 0) ∧ w1.frozen? ⟨gb + 1, 4, none⟩ = false := ⟨by rw [bR.cell]; rfl, bR.frozen _⟩
 clear hx hgb
 by_cases h0 : mayE p m fuel = 0
 ·obtain ⟨hh, hfit, hf0, hf4⟩ := Q6h h0
  have H0 := Lib.hid h0
  have Hh := Lib.hid hh
  have Hfit := Lib.hid hfit
  have Hgood := Lib.hid (Qcl hfit Hm64.out)
  rw [h0]
  go_wp2_with fail
  have hr := (Q2z hh).1
  have Hr := Lib.hid hr
  have C := Q9h p m (.slice o1 p.regs.length s1) (.slice o2 p.code.length s2) vm w1 (HM.out.ext X.out) hfit hr
  clear h0 hh hfit hr r0 r1 r2 r3 r4
  (with_reducible refine C.mono ?_)
  clear C
  rintro e w2 ⟨g, vB, vW, rfl, P0, hx0⟩
  have P0 := Lib.hid P0
  have X0 := Lib.hid hx0
  have BP0 := Lib.hid bP
  have BR0 := Lib.hid bR
  have Hfits : Hid (∀ i ∈ p.code, i.fits) := Lib.hid (by
   obtain ⟨v1, v2, hv, h1, h2⟩ := HP.out
   exact h2.1)
  have hrl := bR.lt
  clear hx0 c0 c1 bP bR
  go_wp2_with fail
  go_loopw [] (fun wr => ∃ (M : Mach) (vS : Value), M.steps ≤ fuel.toNat ∧ Q3x p M ∧ runM p (fuel.toNat - M.steps) M = F ∧ MSt wr w1.heap.size g (.slice o1 p.regs.length s1) (.slice o2 p.code.length s2) (.slice none 0 0) vB vS vW (Q0n p) M ∧ Ext w1 wr) (fun wr => fuel.toNat - Q3b wr g)
  case atStart =>
   exact ⟨Q01 m.flatten, _, by simp [Q01], Hgood.out, by simpa [Q01] using HF.out, P0.out, X0.out⟩
  case round =>
   obtain ⟨M, vS, hst, hgo, hrun, P, hE⟩ := hrel
   have Hgo := Lib.hid hgo
   have Hrun := Lib.hid hrun
   have PP := Lib.hid P
   have XE := Lib.hid hE
   have bP := BP0.out.ext hE
   have c1 : wr.cell? ⟨gb, 1, none⟩ = some (.slice o2 p.code.length s2) := by rw [bP.cell]; rfl
   obtain ⟨-, -, g2, -, g4, -, -, -, g18, -⟩ := P.cells
   have hgl := P.box.lt
   have hatle := hgo.at_
   have hsl := hgo.seen
   have Hmeas := Lib.hid (Q6i P)
   clear hgo hrun P hE bP
   by_cases hfin : M.fin = 0
   ·have Hfin := Lib.hid hfin
    rw [hfin] at g2
    clear hfin
    by_cases hlt : (M.steps : Int) < fuel
    ·by_cases hat : M.at_ < p.code.length
     ·have Hi := Lib.hid (show p.code[M.at_]? = some (p.code.getD M.at_ default) by simp [hat])
      have Hfi := Lib.hid (Hfits.out _ (Q1f hat))
      have hiok := (Q2z Hh.out).2.2.2 _ (Q1f hat)
      generalize p.code.getD M.at_ default = i at *
      have hN := Lib.hid (Qbx Hgo.out Hi.out hiok Hfi.out (show M.steps < fuel.toNat by omega) Hfin.out Hrun.out)
      go_upto_region 6 with fail
      have k18 : ∀ W, Ext wr W → W.cell? ⟨g, 18, none⟩ = some (.int .i64 (M.at_ : Int)) := fun _ h => h.kept g18.1
      have k1 : ∀ W, Ext wr W → W.cell? ⟨gb, 1, none⟩ = some (.slice o2 p.code.length s2) := fun _ h => h.kept c1
      refine Q0t 9 (by kernel_rfl) (by kernel_rfl) ?_
      simp only [List.take_succ_cons, List.take_zero, List.drop_succ_cons, List.drop_zero]
      repeat (first | (refine Q0g ?_ ?_ (fun wc hE => ?_) ?_; (decide); rfl; (focus (go_simp; done)); go_simp) | (refine Q0a ?_ ?_ ?_; (decide); (first | rfl | (focus (go_simp; done))); apply Exists.intro; refine ⟨fun wc hE => ?_, ?_⟩; (go_simp; exact rfl); go_simp) | (refine Q0h ?_ ?_ ?_; (decide); (first | rfl | (focus (go_simp; done))); apply Exists.intro; refine ⟨fun wc hE => ?_, ?_⟩; (go_simp; (first | fail)); go_simp) | (refine Q0e ?_ ?_ ?_; (decide); (focus (go_simp; done)); go_simp))
      refine Q0f ?_
      intro wx hx
      clear k18 k1
      have PP := Lib.hid (PP.out.ext hx)
      have XE := Lib.hid (XE.out.trans hx)
      have g2 := Q07 hx g2
      have hgl := PP.out.box.lt
      clear hx
      have C := Q64 p i Hi.out Hh.out Hfi.out Hgo.out.ok (by omega) (by omega) wx (HP.out.ext X.out) XE.out PP.out
      have C := Lib.hid C
      have Hms : Hid ((Q06 p i M).steps = M.steps + 1) := Lib.hid (Q53 p i M)
      clear hiok
      go_wp2_with fail
      (with_reducible refine C.out.mono ?_)
      clear C
      rintro e w3 ⟨rfl, vS3, P3, X3⟩
      have P3 := Lib.hid P3
      have X3 := Lib.hid X3
      clear g2 g4 g18 c1
      go_wp2
      go_roundw
      case rel => exact ⟨Q06 p i M, vS3, hN.out.2.1, hN.out.1, hN.out.2.2, P3.out, X3.out⟩
      case measure =>
       have e1 := Hmeas.out
       have e2 := Q6i P3.out
       have e3 := Hms.out
       rw [e1, e2]; omega
     ·have hate : decide ((p.code.length : Int) ≤ (M.at_ : Int)) = true := by simp; omega
      have Hlast : Hid (F = { M with fin := 2 }) := Lib.hid (by rw [← Hrun.out]; exact Qbd (by omega) Hfin.out (by simp; omega))
      go_upto_region 6 with fail
      have k18 : ∀ W, Ext wr W → W.cell? ⟨g, 18, none⟩ = some (.int .i64 (M.at_ : Int)) := fun _ h => h.kept g18.1
      have k1 : ∀ W, Ext wr W → W.cell? ⟨gb, 1, none⟩ = some (.slice o2 p.code.length s2) := fun _ h => h.kept c1
      refine Q0t 9 (by kernel_rfl) (by kernel_rfl) ?_
      simp only [List.take_succ_cons, List.take_zero, List.drop_succ_cons, List.drop_zero]
      repeat (first | (refine Q0g ?_ ?_ (fun wc hE => ?_) ?_; (decide); rfl; (focus (go_simp; done)); go_simp) | (refine Q0a ?_ ?_ ?_; (decide); (first | rfl | (focus (go_simp; done))); apply Exists.intro; refine ⟨fun wc hE => ?_, ?_⟩; (go_simp; exact rfl); go_simp) | (refine Q0h ?_ ?_ ?_; (decide); (first | rfl | (focus (go_simp; done))); apply Exists.intro; refine ⟨fun wc hE => ?_, ?_⟩; (go_simp; (first | fail)); go_simp) | (refine Q0e ?_ ?_ ?_; (decide); (focus (go_simp; done)); go_simp))
      refine Q0f ?_
      intro wx hx
      clear k18 k1
      have PP := Lib.hid (PP.out.ext hx)
      have XE := Lib.hid (XE.out.trans hx)
      have g2 := Q07 hx g2
      have hgl := PP.out.box.lt
      clear hx
      have PE := Lib.hid (PP.out.fin_ 2)
      have XE := Lib.hid (XE.out.setCell (p := ⟨g, 2, none⟩) PP.out.hg (.int .i64 2))
      have HOK := Lib.hid (Hgo.out.ok.same (M' := { M with fin := 2 }) rfl rfl)
      have hgl2 : g < (wx.setCell ⟨g, 2, none⟩ (.int .i64 2)).heap.size := by rw [Q21]; exact hgl
      go_wp2_with fail
      have C := Q5t p Hr.out HOK.out _ (HP.out.ext X.out) XE.out PE.out
      (with_reducible refine C.mono ?_)
      clear C
      rintro e w4 ⟨u, rfl, hu, hx4⟩
      have HU := Lib.hid hu
      obtain ⟨vs, vm', U, rfl, hs1, hs2⟩ := hu
      obtain ⟨os, osc, rfl⟩ := Q0x hs1
      obtain ⟨om, omk, omc, rfl⟩ : ∃ a b c, vm' = .slice a b c := by
       obtain ⟨vs, h1, h2, -⟩ := hs2
       obtain ⟨a, c, h⟩ := Q0x h2
       exact ⟨a, _, c, h⟩
      have bR4 := BR0.out.ext hx4
      have r0 : w4.cell? ⟨gb + 1, 0, none⟩ = some (.int .i64 0) ∧ w4.frozen? ⟨gb + 1, 0, none⟩ = false := ⟨by rw [bR4.cell]; rfl, bR4.frozen _⟩
      have r1 : w4.cell? ⟨gb + 1, 1, none⟩ = some (.int .i64 0) ∧ w4.frozen? ⟨gb + 1, 1, none⟩ = false := ⟨by rw [bR4.cell]; rfl, bR4.frozen _⟩
      have r2 : w4.cell? ⟨gb + 1, 2, none⟩ = some (.int .i64 0) ∧ w4.frozen? ⟨gb + 1, 2, none⟩ = false := ⟨by rw [bR4.cell]; rfl, bR4.frozen _⟩
      have r3 : w4.cell? ⟨gb + 1, 3, none⟩ = some (.slice none 0 0) ∧ w4.frozen? ⟨gb + 1, 3, none⟩ = false := ⟨by rw [bR4.cell]; rfl, bR4.frozen _⟩
      have r4 : w4.cell? ⟨gb + 1, 4, none⟩ = some (.slice none 0 0) ∧ w4.frozen? ⟨gb + 1, 4, none⟩ = false := ⟨by rw [bR4.cell]; rfl, bR4.frozen _⟩
      have X4 := Lib.hid hx4
      have HW64 := Lib.hid HOK.out.w64
      clear hs1 hs2 hx4 g2 g4 g18 c1
      go_wp2
      have hE := Q55 (F := { M with fin := 2 }) HU.out HW64.out bR4 hrl (Nat.le_succ_of_le Hb.out) X.out X4.out rfl
      have HE := Lib.hid hE
      clear hE
      refine bodyPost_ret (Q37 (HE.out.1) rfl _ rfl rfl Try.underlying30 rfl (by kernel_rfl)) rfl ⟨_, by rw [H0.out]; rfl, HE.out.2.2, fun _ => ?_, fun h => absurd H0.out h⟩
      rw [Hlast.out]
      exact HE.out.2.1
    ·have hlt2 : decide ((M.steps : Int) < fuel) = false := by simpa using hlt
     have Hlast : Hid (F = M) := Lib.hid (by rw [← Hrun.out, show fuel.toNat - M.steps = 0 by omega]; rfl)
     have PE := PP
     have HOK := Lib.hid Hgo.out.ok
     clear hlt
     go_wp2_with fail
     have C := Q5t p Hr.out HOK.out _ (HP.out.ext X.out) XE.out PE.out
     (with_reducible refine C.mono ?_)
     clear C
     rintro e w4 ⟨u, rfl, hu, hx4⟩
     have HU := Lib.hid hu
     obtain ⟨vs, vm', U, rfl, hs1, hs2⟩ := hu
     obtain ⟨os, osc, rfl⟩ := Q0x hs1
     obtain ⟨om, omk, omc, rfl⟩ : ∃ a b c, vm' = .slice a b c := by
      obtain ⟨vs, h1, h2, -⟩ := hs2
      obtain ⟨a, c, h⟩ := Q0x h2
      exact ⟨a, _, c, h⟩
     have bR4 := BR0.out.ext hx4
     have r0 : w4.cell? ⟨gb + 1, 0, none⟩ = some (.int .i64 0) ∧ w4.frozen? ⟨gb + 1, 0, none⟩ = false := ⟨by rw [bR4.cell]; rfl, bR4.frozen _⟩
     have r1 : w4.cell? ⟨gb + 1, 1, none⟩ = some (.int .i64 0) ∧ w4.frozen? ⟨gb + 1, 1, none⟩ = false := ⟨by rw [bR4.cell]; rfl, bR4.frozen _⟩
     have r2 : w4.cell? ⟨gb + 1, 2, none⟩ = some (.int .i64 0) ∧ w4.frozen? ⟨gb + 1, 2, none⟩ = false := ⟨by rw [bR4.cell]; rfl, bR4.frozen _⟩
     have r3 : w4.cell? ⟨gb + 1, 3, none⟩ = some (.slice none 0 0) ∧ w4.frozen? ⟨gb + 1, 3, none⟩ = false := ⟨by rw [bR4.cell]; rfl, bR4.frozen _⟩
     have r4 : w4.cell? ⟨gb + 1, 4, none⟩ = some (.slice none 0 0) ∧ w4.frozen? ⟨gb + 1, 4, none⟩ = false := ⟨by rw [bR4.cell]; rfl, bR4.frozen _⟩
     have X4 := Lib.hid hx4
     have HW64 := Lib.hid HOK.out.w64
     clear hs1 hs2 hx4 g2 g4 g18 c1
     go_wp2
     have hE := Q55 (F := M) HU.out HW64.out bR4 hrl (Nat.le_succ_of_le Hb.out) X.out X4.out rfl
     have HE := Lib.hid hE
     clear hE
     refine bodyPost_ret (Q37 (HE.out.1) rfl _ rfl rfl Try.underlying30 rfl (by kernel_rfl)) rfl ⟨_, by rw [H0.out]; rfl, HE.out.2.2, fun _ => ?_, fun h => absurd H0.out h⟩
     rw [Hlast.out]
     exact HE.out.2.1
   ·have Hlast : Hid (F = M) := Lib.hid (by rw [← Hrun.out]; exact (Q58 hfin _).symm ▸ rfl)
    have PE := PP
    have HOK := Lib.hid Hgo.out.ok
    have hfd : (M.fin == (0 : Int)) = false := by simpa using hfin
    clear hfin
    go_wp2_with fail
    have C := Q5t p Hr.out HOK.out _ (HP.out.ext X.out) XE.out PE.out
    (with_reducible refine C.mono ?_)
    clear C
    rintro e w4 ⟨u, rfl, hu, hx4⟩
    have HU := Lib.hid hu
    obtain ⟨vs, vm', U, rfl, hs1, hs2⟩ := hu
    obtain ⟨os, osc, rfl⟩ := Q0x hs1
    obtain ⟨om, omk, omc, rfl⟩ : ∃ a b c, vm' = .slice a b c := by
     obtain ⟨vs, h1, h2, -⟩ := hs2
     obtain ⟨a, c, h⟩ := Q0x h2
     exact ⟨a, _, c, h⟩
    have bR4 := BR0.out.ext hx4
    have r0 : w4.cell? ⟨gb + 1, 0, none⟩ = some (.int .i64 0) ∧ w4.frozen? ⟨gb + 1, 0, none⟩ = false := ⟨by rw [bR4.cell]; rfl, bR4.frozen _⟩
    have r1 : w4.cell? ⟨gb + 1, 1, none⟩ = some (.int .i64 0) ∧ w4.frozen? ⟨gb + 1, 1, none⟩ = false := ⟨by rw [bR4.cell]; rfl, bR4.frozen _⟩
    have r2 : w4.cell? ⟨gb + 1, 2, none⟩ = some (.int .i64 0) ∧ w4.frozen? ⟨gb + 1, 2, none⟩ = false := ⟨by rw [bR4.cell]; rfl, bR4.frozen _⟩
    have r3 : w4.cell? ⟨gb + 1, 3, none⟩ = some (.slice none 0 0) ∧ w4.frozen? ⟨gb + 1, 3, none⟩ = false := ⟨by rw [bR4.cell]; rfl, bR4.frozen _⟩
    have r4 : w4.cell? ⟨gb + 1, 4, none⟩ = some (.slice none 0 0) ∧ w4.frozen? ⟨gb + 1, 4, none⟩ = false := ⟨by rw [bR4.cell]; rfl, bR4.frozen _⟩
    have X4 := Lib.hid hx4
    have HW64 := Lib.hid HOK.out.w64
    clear hs1 hs2 hx4 g2 g4 g18 c1
    go_wp2
    have hE := Q55 (F := M) HU.out HW64.out bR4 hrl (Nat.le_succ_of_le Hb.out) X.out X4.out rfl
    have HE := Lib.hid hE
    clear hE
    refine bodyPost_ret (Q37 (HE.out.1) rfl _ rfl rfl Try.underlying30 rfl (by kernel_rfl)) rfl ⟨_, by rw [H0.out]; rfl, HE.out.2.2, fun _ => ?_, fun h => absurd H0.out h⟩
    rw [Hlast.out]
    exact HE.out.2.1
 ·have H0 := Lib.hid h0
  have hne : (mayE p m fuel != 0) = true := by simpa using h0
  generalize hc : mayE p m fuel = c at *
  clear h0
  go_wp2
  have hBk := ((((bR.set_ 0 (.int .i64 0)).set_ 1 (.int .i64 0)).set_ 2 (.int .i64 0)).set_ 3 (.slice none 0 0)).set_ 4 (.slice none 0 0)
  have hg0 : w.heap.size ≤ gb + 1 := Nat.le_succ_of_le Hb.out
  exact bodyPost_ret (Q37 hBk rfl _ rfl rfl Try.underlying30 rfl (by kernel_rfl)) rfl ⟨_, by rw [hc]; rfl, ((((X.out.setCell hg0 _).setCell hg0 _).setCell hg0 _).setCell hg0 _).setCell hg0 _, fun h => absurd (hc.symm.trans h) H0.out, fun _ => Q57 _⟩
section
variable {wB w w' : World} {g : Nat} {vG vC : Value} {V : RV} {S : Spc}
end
section
variable {wB w w' : World} {g : Nat} {vG vC vM : Value} {V : RV} {S : Spc} {ms : List (List Int)} {us : List Value}
end
def Q2l (l : List Int) : Bool := decide (l.length ≤ 2000) && l.all fun x => decide (0 ≤ x)
theorem Qdw (x : Int) : (x != x) = false := by simp
set_option maxHeartbeats 4000000 in
theorem Qbn (m : List (List Int)) (v u : Value) (w : World) (hv : Q1k w v m) (hu : Q1k w u m) :
  Calls Try.prog 14 #[v, u] w fun e w' => e = .returned (.bool true) ∧ Ext w w' := by
 obtain ⟨oa, cap, b, o, rfl, hc1, hc2, vs, hrow, hin⟩ := hv
 obtain ⟨ob, capb, b2, o2, rfl, hd1, hd2, us, hrow2, hin2⟩ := hu
 have hlen := Q2i hc1 hc2
 have hix := index_mem' (cap := cap) hrow.at_
 have hix2 := index_mem' (cap := capb) hrow2.at_
 have Hrow := Lib.hid hrow
 have Hrow2 := Lib.hid hrow2
 have Hin := Lib.hid hin
 have Hin2 := Lib.hid hin2
 have hne := Qdw
 have hq1 : ((m.length : Int) != (m.length : Int)) = false := by simp
 clear hrow hrow2 hc1 hc2 hd1 hd2 hin hin2
 go_enter Try.func14, Try.ntmps14
 go_wp2_with fail
 go_loopw [5] (fun i wr => ∃ j : Nat, j ≤ m.length ∧ i = .int .i64 j ∧ Ext w wr) (fun i _ => m.length - (intOf i).toNat)
 case atStart => exact ⟨0, by omega, rfl, Ext.refl _⟩
 case round =>
  obtain ⟨j, hj, rfl, hE⟩ := hrel
  have X := Lib.hid hE
  clear hE
  by_cases hlt : j < m.length
  ·have e0 := (Hrow.out.ext X.out).one j hlt
   have f0 := (Hrow2.out.ext X.out).one j hlt
   have h1 := (Hin.out j hlt).ext X.out
   have h2 := (Hin2.out j hlt).ext X.out
   generalize m.getD j default = l at *
   generalize vs j = vj at *
   generalize us j = uj at *
   obtain ⟨-, oc, capc, b3, o3, rfl, hc3, hc4, r3⟩ := h1
   obtain ⟨-, od, capd, b4, o4, rfl, hd3, hd4, r4⟩ := h2
   have hlen2 := Q2i hc3 hc4
   have hq2 : ((l.length : Int) != (l.length : Int)) = false := by simp
   have hiy := Q6q (cap := capc) r3.at_
   have hiy2 := Q6q (cap := capd) r4.at_
   have R3 := Lib.hid r3
   have R4 := Lib.hid r4
   have k0 : ∀ W, Ext wr W → W.cell? ⟨b, o + j, none⟩ = some (.slice oc l.length capc) := fun _ h => h.kept e0
   have k1 : ∀ W, Ext wr W → W.cell? ⟨b2, o2 + j, none⟩ = some (.slice od l.length capd) := fun _ h => h.kept f0
   clear r3 r4 hc3 hc4 hd3 hd4
   go_upto_region 6 with fail
   refine Q0t 11 (by kernel_rfl) (by kernel_rfl) ?_
   simp only [List.take_succ_cons, List.take_zero, List.drop_succ_cons, List.drop_zero]
   repeat (first | (refine Q0g ?_ ?_ (fun wc hE => ?_) ?_; (decide); rfl; (focus (go_simp; done)); go_simp) | (refine Q0a ?_ ?_ ?_; (decide); (first | rfl | (focus (go_simp; done))); apply Exists.intro; refine ⟨fun wc hE => ?_, ?_⟩; (go_simp; exact rfl); go_simp) | (refine Q0h ?_ ?_ ?_; (decide); (first | rfl | (focus (go_simp; done))); apply Exists.intro; refine ⟨fun wc hE => ?_, ?_⟩; (go_simp; (first | fail)); go_simp) | (refine Q0e ?_ ?_ ?_; (decide); (focus (go_simp; done)); go_simp))
   refine Q0f ?_
   intro wx hx
   have HE := Lib.hid hx
   have X := Lib.hid (X.out.trans hx)
   clear k0 k1
   have e0 := hx.kept e0
   have f0 := hx.kept f0
   clear hx
   go_wp2_with fail
   obtain ⟨w1, hw1⟩ : ∃ w1, w1 = wx := ⟨_, rfl⟩
   subst hw1
   go_loopw [6] (fun i wr => ∃ k : Nat, k ≤ l.length ∧ i = .int .i64 k ∧ Ext w1 wr) (fun i _ => l.length - (intOf i).toNat)
   case atStart => exact ⟨0, by omega, rfl, Ext.refl _⟩
   case round =>
    obtain ⟨k, hk, rfl, hE⟩ := hrel
    have e0 := hE.kept e0
    have f0 := hE.kept f0
    have HE2 := Lib.hid (HE.out.trans hE)
    have HE1 := Lib.hid hE
    clear hE
    by_cases hltk : k < l.length
    ·have e1 := (R3.out.ext HE2.out).one k hltk
     have f1 := (R4.out.ext HE2.out).one k hltk
     generalize l.getD k default = x at *
     have k0 : ∀ W, Ext wr W → W.cell? ⟨b, o + j, none⟩ = some (.slice oc l.length capc) := fun _ h => h.kept e0
     have k1 : ∀ W, Ext wr W → W.cell? ⟨b2, o2 + j, none⟩ = some (.slice od l.length capd) := fun _ h => h.kept f0
     have k2 : ∀ W, Ext wr W → W.cell? ⟨b3, o3 + k, none⟩ = some (.int .i64 x) := fun _ h => h.kept e1
     have k3 : ∀ W, Ext wr W → W.cell? ⟨b4, o4 + k, none⟩ = some (.int .i64 x) := fun _ h => h.kept f1
     clear f0 e1 f1
     go_upto_region 11 with fail
     refine Q0t 15 (by kernel_rfl) (by kernel_rfl) ?_
     simp only [List.take_succ_cons, List.take_zero, List.drop_succ_cons, List.drop_zero]
     repeat (first | (refine Q0g ?_ ?_ (fun wc hE => ?_) ?_; (decide); rfl; (focus (go_simp; done)); go_simp) | (refine Q0a ?_ ?_ ?_; (decide); (first | rfl | (focus (go_simp; done))); apply Exists.intro; refine ⟨fun wc hE => ?_, ?_⟩; (go_simp; exact rfl); go_simp) | (refine Q0h ?_ ?_ ?_; (decide); (first | rfl | (focus (go_simp; done))); apply Exists.intro; refine ⟨fun wc hE => ?_, ?_⟩; (go_simp; (first | fail)); go_simp) | (refine Q0e ?_ ?_ ?_; (decide); (focus (go_simp; done)); go_simp))
     refine Q0f ?_
     intro wy hy
     have HE1 := Lib.hid (HE1.out.trans hy)
     clear hy k0 k1 k2 k3 e0
     go_wp2
     go_roundw
     case rel => exact ⟨k + 1, by omega, by go_num, HE1.out⟩
     case measure => first | (simp [intOf]; done) | (simp [intOf]; omega)
    ·have hje : k = l.length := by omega
     subst hje
     have hlt2 : decide ((l.length : Int) < (l.length : Int)) = false := by simp
     go_wp2
     go_roundw
     case rel => exact ⟨j + 1, by omega, by go_num, X.out.trans HE1.out⟩
     case measure => first | (simp [intOf]; done) | (simp [intOf]; omega)
  ·have hje : j = m.length := by omega
   subst hje
   have hlt2 : decide ((m.length : Int) < (m.length : Int)) = false := by simp
   go_wp2
   go_ret
   exact ⟨rfl, X.out⟩
theorem Q56 {w : World} {v : Value} {fin value : Int} {steps : Nat} {seen : List LSee} {mem : List (List Int)} (h : Q1z w v fin value steps seen mem) :
  ∃ a c b d, v = .agg #[.int .i64 fin, .int .i64 value, .int .i64 steps, .slice a seen.length c, .slice b mem.length d] := by
 obtain ⟨vs, vm, rfl, ⟨oa, cap, b, o, rfl, -⟩, ⟨ob, capb, b2, o2, rfl, -⟩⟩ := h
 exact ⟨_, _, _, _, rfl⟩
end Go.Proofs.Ytalpnmjaafcpoaa
