/- Laid together from: LQ. -/
import Derived.Test.YteiknefajlocoaaLoadQuietB45
import Derived.Test.YteiknefajlocoaaLoadQuietB46

namespace Go.Proofs.Yteiknefajlocoaa
open Go.ChangeShapes Go.WideShapes Go.ChangeAt Go.RowKit
set_option linter.unusedVariables false
set_option linter.unusedSimpArgs false
set_option maxRecDepth 100000 in
set_option maxHeartbeats 8000000 in
theorem Qom {p : Q01} {v : Value} {m n : List (List Int)} {vm vn vx : Value} {script : List Int} {w : World} (hp : Q07 w v p) (hm : Q4v w vm m) (hn : Q4v w vn n) (hx : Q49 w vx script) (fuel : Int) (hf : R64 fuel) :
  Calls Try.prog 16 #[v, vm, vn, vx, .int .i64 fuel] w fun e w' => e = .returned (.bool true) ∧ Ext w w' := by
 have HP := Lib.hid hp
 have HM := Lib.hid hm
 have HN := Lib.hid hn
 have HI := Lib.hid hx
 obtain ⟨a1, a2, a3, a4, rfl, hR1, -⟩ := Q8l hp
 have HR := Lib.hid hR1
 clear hp hm hn hx hR1
 go_enter Try.func16, Try.ntmps16
 go_wp2_with fail
 obtain ⟨W, gp, hg, hW, hx, bA⟩ := Q14 w #[.slice a1 p.regs.length a2, .slice a3 p.code.length a4] 25
 rw [hW, hg]
 have X := Lib.hid hx
 have BA := Lib.hid bA
 clear hW hg hx bA
 have C := Qrc p _ W (HP.out.ext X.out)
 (with_reducible refine C.mono ?_)
 clear C
 rintro e w1 ⟨F, rfl, hx, h1, h2⟩
 have X := Lib.hid (X.out.trans hx)
 have BA := Lib.hid (BA.out.ext hx)
 have Ht := Lib.hid (Qra HP.out h1 h2)
 clear hx h1 h2
 go_upto_region 2 with fail
 obtain ⟨w2, gf, hg, hW, hx, bF⟩ := Q14 w1 #[.int .i64 F.1, .int .i64 (F.2 : Int)] 28
 rw [hW, hg]
 have X := Lib.hid (X.out.trans hx)
 have BA := Lib.hid (BA.out.ext hx)
 have a0 : w2.cell? ⟨gp, 0, none⟩ = some (.slice a1 p.regs.length a2) := by rw [BA.out.cell]; rfl
 have a1' : w2.cell? ⟨gp, 1, none⟩ = some (.slice a3 p.code.length a4) := by rw [BA.out.cell]; rfl
 have f0 : w2.cell? ⟨gf, 0, none⟩ = some (.int .i64 F.1) := by rw [bF.cell]; rfl
 have hgl := BA.out.lt
 clear hW hg hx bF
 by_cases hF : F.1 = 0
 ·have hs : Q1x p = true ∧ ∃ T, Q3z p T ∧ Q59 p T := by
   rcases Ht.out with h | ⟨-, h, T, h', hl, -⟩
   ·rw [hF] at h; simp at h
   ·exact ⟨h, T, h', hl⟩
  obtain ⟨hmay, T, hT, hLe⟩ := hs
  have HT := Lib.hid hT
  have HLe := Lib.hid hLe
  have Hmay := Lib.hid hmay
  have hq : (F.1 != (0 : Int)) = false := by simp [hF]
  clear hT hmay Ht hF hLe
  go_wp2_with fail
  have C := Qeq p _ m vm w2 (HP.out.ext X.out) (HM.out.ext X.out)
  (with_reducible refine C.mono ?_)
  clear C
  rintro e w3 ⟨rfl, hx⟩
  have X := Lib.hid (X.out.trans hx)
  have BA := Lib.hid (BA.out.ext hx)
  have a0 := hx.kept a0
  have a1' := hx.kept a1'
  have hgl := BA.out.lt
  clear hx f0
  cases hfit : Q2g p m
  ·go_wp2
   go_ret
   exact ⟨rfl, X.out⟩
  have Hfit := Lib.hid hfit
  clear hfit
  go_wp2_with fail
  have C := Qeq p _ n vn w3 (HP.out.ext X.out) (HN.out.ext X.out)
  (with_reducible refine C.mono ?_)
  clear C
  rintro e w4 ⟨rfl, hx⟩
  have X := Lib.hid (X.out.trans hx)
  have BA := Lib.hid (BA.out.ext hx)
  have a0 := hx.kept a0
  have a1' := hx.kept a1'
  have hgl := BA.out.lt
  clear hx
  cases hfit2 : Q2g p n
  ·go_wp2
   go_ret
   exact ⟨rfl, X.out⟩
  have Hfit2 := Lib.hid hfit2
  clear hfit2
  go_wp2_with fail
  have C := Qes p m n (vC := .slice a3 p.code.length a4) w4 (HR.out.ext X.out) (HM.out.ext X.out) (HN.out.ext X.out) Hfit.out Hfit2.out
  (with_reducible refine C.mono ?_)
  clear C
  rintro e w5 ⟨rfl, hx⟩
  have X := Lib.hid (X.out.trans hx)
  have BA := Lib.hid (BA.out.ext hx)
  have a0 := hx.kept a0
  have a1' := hx.kept a1'
  have hgl := BA.out.lt
  clear hx
  cases hpub : Q50 p m n
  ·go_wp2
   go_ret
   exact ⟨rfl, X.out⟩
  have Hpub := Lib.hid hpub
  clear hpub
  go_wp2_with fail
  have C := Qls script vx w5 (HI.out.ext X.out)
  (with_reducible refine C.mono ?_)
  clear C
  rintro e w6 ⟨rfl, hx⟩
  have X := Lib.hid (X.out.trans hx)
  have BA := Lib.hid (BA.out.ext hx)
  have a0 := hx.kept a0
  have a1' := hx.kept a1'
  have hgl := BA.out.lt
  clear hx
  cases hsc : Q6b script
  ·go_wp2
   go_ret
   exact ⟨rfl, X.out⟩
  clear hsc
  by_cases hfu0 : fuel < 0
  ·have hd : decide (fuel < (0 : Int)) = true := by simpa using hfu0
   clear hfu0
   go_wp2
   go_ret
   exact ⟨rfl, X.out⟩
  by_cases hfu : 4000 < fuel
  ·have hd0 : decide (fuel < (0 : Int)) = false := by simpa using hfu0
   have hd : decide ((4000 : Int) < fuel) = true := by simpa using hfu
   clear hfu hfu0
   go_wp2
   go_ret
   exact ⟨rfl, X.out⟩
  have hd0 : decide (fuel < (0 : Int)) = false := by simpa using hfu0
  have hd : decide ((4000 : Int) < fuel) = false := by simpa using hfu
  have Hfu := Lib.hid (show fuel ≤ 40000 by omega)
  clear hfu hfu0
  go_wp2_with fail
  have C := Qok p _ w6 (HP.out.ext X.out)
  (with_reducible refine C.mono ?_)
  clear C
  rintro e w7 ⟨u, G, rfl, hx, h1, h2, h3, h4⟩
  have X := Lib.hid (X.out.trans hx)
  have BA := Lib.hid (BA.out.ext hx)
  have hG : G.1 = 0 := by
   obtain ⟨U, hU, hGe⟩ := h1 Hmay.out
   rw [hGe, Qor hU HLe.out]
   exact HT.out.none_
  obtain ⟨-, hU⟩ := h3 hG
  have HU := Lib.hid hU
  have hq2 : (G.1 != (0 : Int)) = false := by simp [hG]
  have Hn := Lib.hid (Qeu HP.out)
  obtain ⟨z1, z2, rfl⟩ := Qdf hU
  generalize hws : (Q0f p).code.map Q2m = ws at *
  clear h1 h2 h3 h4 hU hG hx a0 a1' hgl hd hd0
  go_upto_region 5 with fail
  obtain ⟨w8, gk, hg, hW, hx, bF⟩ := Q14 w7 #[.int .i64 G.1, .int .i64 (G.2 : Int)] 28
  rw [hW, hg]
  have X := Lib.hid (X.out.trans hx)
  have BA := Lib.hid (BA.out.ext hx)
  have BF := Lib.hid bF
  have HU := Lib.hid (HU.out.ext hx)
  have a0 : w8.cell? ⟨gp, 0, none⟩ = some (.slice a1 p.regs.length a2) := by rw [BA.out.cell]; rfl
  have a1' : w8.cell? ⟨gp, 1, none⟩ = some (.slice a3 p.code.length a4) := by rw [BA.out.cell]; rfl
  clear hW hg hx bF
  go_wp2_with fail
  have C := Qog p _ _ w8 (HP.out.ext X.out) Hmay.out (by rw [hws]; exact HU.out)
  (with_reducible refine C.mono ?_)
  clear C
  rintro e w9 ⟨u, rfl, hPq, hx⟩
  obtain ⟨b1, b2, b3, b4, rfl, -, -⟩ := Q8l hPq
  have X := Lib.hid (X.out.trans hx)
  have BF := Lib.hid (BF.out.ext hx)
  have HU := Lib.hid hPq
  clear hx a0 a1' hPq
  go_upto_region 6 with fail
  obtain ⟨w10, gh, hg, hW, hx, bQ⟩ := Q14 w9 #[.slice b1 (Q0f p).regs.length b2, .slice b3 (Q0f p).code.length b4] 25
  rw [hW, hg]
  have X := Lib.hid (X.out.trans hx)
  have bF := BF.out.ext hx
  have BH := Lib.hid bQ
  have HU := Lib.hid (HU.out.ext hx)
  have f0 : w10.cell? ⟨gk, 0, none⟩ = some (.int .i64 G.1) := by rw [bF.cell]; rfl
  have h0 : w10.cell? ⟨gh, 0, none⟩ = some (.slice b1 (Q0f p).regs.length b2) := by rw [bQ.cell]; rfl
  have h1 : w10.cell? ⟨gh, 1, none⟩ = some (.slice b3 (Q0f p).code.length b4) := by rw [bQ.cell]; rfl
  clear hW hg hx bF bQ
  go_wp2_with fail
  have C := Qem (Q0f p) m script fuel _ vm vx w10 HU.out (HM.out.ext X.out) (HI.out.ext X.out) (Q7r Hmay.out Hn.out) (Qgz rfl Hfit.out) Hfu.out hf
  (with_reducible refine C.mono ?_)
  clear C
  rintro e w11 ⟨u1, rfl, hS1, hx⟩
  obtain ⟨s1, s2, s3, s4, rfl⟩ := shown_parts' hS1
  have X := Lib.hid (X.out.trans hx)
  have HU := Lib.hid (HU.out.ext hx)
  have BH := Lib.hid (BH.out.ext hx)
  have HS1 := Lib.hid hS1
  have HCQ := Lib.hid (Qml (Qoi HT.out script (Q78 Hfit.out) (Q78 Hfit2.out) ((Qms Hfit.out Hfit2.out).1 Hpub.out) fuel.toNat))
  have HL1 := Lib.hid (Qe1 (p := Q0f p) (Q7r Hmay.out Hn.out) (Qev HU.out) (Q78 Hfit.out) (Qfo HM.out) script fuel.toNat)
  have HL2 := Lib.hid (Qe1 (p := Q0f p) (Q7r Hmay.out Hn.out) (Qev HU.out) (Q78 Hfit2.out) (Qfo HN.out) script fuel.toNat)
  have HC2 : ∀ Wx, Ext w11 Wx → Hid (Calls Try.prog 41 #[.agg #[.slice b1 (Q0f p).regs.length b2, .slice b3 (Q0f p).code.length b4], vn, vx, .int .i64 fuel] Wx (Qhp (Q0f p) (endS (runS (Q0f p) fuel.toNat (Q16 n.flatten script))) Wx)) := fun Wx h => Lib.hid (Qem (Q0f p) n script fuel _ vn vx Wx (HU.out.ext h) (HN.out.ext (X.out.trans h)) (HI.out.ext (X.out.trans h)) (Q7r Hmay.out Hn.out) (Qgz rfl Hfit2.out) Hfu.out hf)
  generalize endS (runS (Q0f p) fuel.toNat (Q16 m.flatten script)) = R1 at *
  generalize endS (runS (Q0f p) fuel.toNat (Q16 n.flatten script)) = R2 at *
  have h0 := hx.kept h0
  have h1 := hx.kept h1
  clear hS1 hx
  go_upto_region 9 with fail
  obtain ⟨w12, g1, hg, hW, hx, bX⟩ := Q14 w11 #[.int .i64 R1.fin, .int .i64 R1.value, .int .i64 R1.steps, .slice s1 R1.seen.length s2, .slice s3 (Q21 (Q0f p) R1.pl.words).length s4] 36
  rw [hW, hg]
  have X := Lib.hid (X.out.trans hx)
  have HS1 := Lib.hid (HS1.out.ext hx)
  have BX := Lib.hid bX
  have HC2 := Lib.hid (HC2 w12 hx).out
  have HU := Lib.hid (HU.out.ext hx)
  have BH := Lib.hid (BH.out.ext hx)
  have h0 := hx.kept h0
  have h1 := hx.kept h1
  clear hW hg hx bX
  go_wp2_with fail
  (with_reducible refine HC2.out.mono ?_)
  rintro e w13 ⟨u2, rfl, hS2, hx⟩
  have X := Lib.hid (X.out.trans hx)
  have HS1 := Lib.hid (HS1.out.ext hx)
  obtain ⟨t1, t2, t3, t4, rfl⟩ := shown_parts' hS2
  have HS2 := Lib.hid hS2
  have BX := Lib.hid (BX.out.ext hx)
  have BH := Lib.hid (BH.out.ext hx)
  have HU := Lib.hid (HU.out.ext hx)
  clear hS2 hx h0 h1
  go_upto_region 10 with fail
  obtain ⟨w14, g2, hg, hW, hx, bY⟩ := Q14 w13 #[.int .i64 R2.fin, .int .i64 R2.value, .int .i64 R2.steps, .slice t1 R2.seen.length t2, .slice t3 (Q21 (Q0f p) R2.pl.words).length t4] 36
  rw [hW, hg]
  have X := Lib.hid (X.out.trans hx)
  have HS1 := HS1.out.ext hx
  have HS2 := HS2.out.ext hx
  have bX := BX.out.ext hx
  have bH := BH.out.ext hx
  have HU := Lib.hid (HU.out.ext hx)
  have h0 : w14.cell? ⟨gh, 0, none⟩ = some (.slice b1 (Q0f p).regs.length b2) := by rw [bH.cell]; rfl
  have h1 : w14.cell? ⟨gh, 1, none⟩ = some (.slice b3 (Q0f p).code.length b4) := by rw [bH.cell]; rfl
  have x0 : w14.cell? ⟨g1, 0, none⟩ = some (.int .i64 R1.fin) := by rw [bX.cell]; rfl
  have x1 : w14.cell? ⟨g1, 1, none⟩ = some (.int .i64 R1.value) := by rw [bX.cell]; rfl
  have x2 : w14.cell? ⟨g1, 2, none⟩ = some (.int .i64 R1.steps) := by rw [bX.cell]; rfl
  have x3 : w14.cell? ⟨g1, 3, none⟩ = some (.slice s1 R1.seen.length s2) := by rw [bX.cell]; rfl
  have x4 : w14.cell? ⟨g1, 4, none⟩ = some (.slice s3 (Q21 (Q0f p) R1.pl.words).length s4) := by rw [bX.cell]; rfl
  have y0 : w14.cell? ⟨g2, 0, none⟩ = some (.int .i64 R2.fin) := by rw [bY.cell]; rfl
  have y1 : w14.cell? ⟨g2, 1, none⟩ = some (.int .i64 R2.value) := by rw [bY.cell]; rfl
  have y2 : w14.cell? ⟨g2, 2, none⟩ = some (.int .i64 R2.steps) := by rw [bY.cell]; rfl
  have y3 : w14.cell? ⟨g2, 3, none⟩ = some (.slice t1 R2.seen.length t2) := by rw [bY.cell]; rfl
  have y4 : w14.cell? ⟨g2, 4, none⟩ = some (.slice t3 (Q21 (Q0f p) R2.pl.words).length t4) := by rw [bY.cell]; rfl
  have HCC : Hid (Calls Try.prog 30 #[.agg #[.slice b1 (Q0f p).regs.length b2, .slice b3 (Q0f p).code.length b4], .agg #[.int .i64 R1.fin, .int .i64 R1.value, .int .i64 R1.steps, .slice s1 R1.seen.length s2, .slice s3 (Q21 (Q0f p) R1.pl.words).length s4], .agg #[.int .i64 R2.fin, .int .i64 R2.value, .int .i64 R2.steps, .slice t1 R2.seen.length t2, .slice t3 (Q21 (Q0f p) R2.pl.words).length t4]] w14 fun e w' => e = .returned (.bool true) ∧ Ext w14 w') := Lib.hid (by
   obtain ⟨q1, q2, q3, q4, q5⟩ := HCQ.out
   have hr : Q02 (Q0f p).regs = true := (Q3x Hmay.out).1
   rw [← q1, ← q2, ← q3, ← q4] at HS2 ⊢
   exact Qmo (Q0f p) _ _ _ _ _ _ _ _ _ w14 HU.out HS1 HS2 (Qgy hr HL1.out) (Qgy hr HL2.out) ((Qet (p := Q0f p) HL1.out HL2.out).2 q5))
  clear hW hg hx bX bY bH HS1 HS2
  go_wp2_with fail
  (with_reducible refine HCC.out.mono ?_)
  rintro e w15 ⟨rfl, hx⟩
  have X := Lib.hid (X.out.trans hx)
  clear hx
  go_wp2
  go_ret
  exact ⟨rfl, X.out⟩
 ·have hq : (F.1 != (0 : Int)) = true := by simp [hF]
  clear hF Ht
  go_wp2
  go_ret
  exact ⟨rfl, X.out⟩
end Go.Proofs.Yteiknefajlocoaa
