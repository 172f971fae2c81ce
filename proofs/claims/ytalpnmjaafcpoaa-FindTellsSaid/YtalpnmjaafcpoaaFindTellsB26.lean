/- Laid together from: Play4, Seq3, Seq4, Seq5. -/
import Derived.Test.YtalpnmjaafcpoaaFindTellsB25
import Derived.Test.YtalpnmjaafcpoaaFindTellsB24
import Derived.Test.YtalpnmjaafcpoaaFindTellsB9

namespace Go.Proofs.Ytalpnmjaafcpoaa
open Go.ChangeShapes Go.WideShapes Go.ChangeAt Go.RowKit
set_option linter.unusedVariables false
set_option linter.unusedSimpArgs false
section
variable {wB w : World} {g : Nat} {vG vC : Value} {V : RV} {S : Spc}
def Off (v : Value) (W w : World) : Prop := Turn (fun j => v.ownBlock = some j) W w
theorem Off.kept {v x : Value} {W w : World} {b o : Nat} (h : Off v W w) (hc : W.cell? ⟨b, o, none⟩ = some x) (hn : v.ownBlock ≠ some b) : w.cell? ⟨b, o, none⟩ = some x := by
 rw [World.cell?_of_block (w := W) (w' := w) (a := ⟨b, o, none⟩) (Turn.block h b (Q0s hc) hn)]
 exact hc
def Q3k (i : LIns) (S : Spc) (m : Int) : Spc :=
 let s1 := { S with seen := S.seen ++ [⟨2, m, putN i⟩] }
 if 0 ≤ m ∧ m < S.pl.words.length then
  if Q15 i then { s1 with pl := { s1.pl with at_ := s1.pl.at_ + 1, past := s1.pl.past.set m.toNat (s1.pl.past.getD m.toNat [] ++ [s1.pl.words.getD m.toNat 0]), words := s1.pl.words.set m.toNat (rg s1.pl.regs i.a) } }
  else Q26 i m.toNat s1
 else
  let s2 := s1.goTo (s1.pl.at_ + 1)
  if Q15 i then s2 else s2.put_ i.a 0
theorem Q9e {p : Q01} {i : LIns} {S : Spc} (h : (!Q31 p i (Q1n S.pl.regs i) && !S.ahead) = false) : Q1e p i S = Q3k i S (wrap64 (Q0k p i.c.toNat + Q1n S.pl.regs i)) := by
 unfold Q1e
 simp only
 rw [if_neg (by rw [h]; simp)]
 rfl
theorem Q86 {i : LIns} (h : Q15 i = false) : putN i = 0 := by unfold putN; rw [h]; rfl
theorem Q87 {i : LIns} (h : Q15 i = true) : putN i = 1 := by unfold putN; rw [h]; rfl
theorem Qaa {i : LIns} {S : Spc} {m : Int} (h : Q15 i = false) (hm : ¬ (0 ≤ m ∧ m < S.pl.words.length)) : Q3k i S m = (({ S with seen := S.seen ++ [⟨2, m, 0⟩] } : Spc).goTo (S.pl.at_ + 1)).put_ i.a 0 := by
 unfold Q3k
 simp only
 rw [if_neg hm, if_neg (by rw [h]; simp), Q86 h]
theorem Qab {i : LIns} {S : Spc} {m : Int} (h : Q15 i = true) (hm : ¬ (0 ≤ m ∧ m < S.pl.words.length)) : Q3k i S m = ({ S with seen := S.seen ++ [⟨2, m, 1⟩] } : Spc).goTo (S.pl.at_ + 1) := by
 unfold Q3k
 simp only
 rw [if_neg hm, if_pos h, Q87 h]
theorem Qa8 {i : LIns} {S : Spc} {m : Int} (h : Q15 i = false) (hm : 0 ≤ m ∧ m < S.pl.words.length) : Q3k i S m = Q26 i m.toNat { S with seen := S.seen ++ [⟨2, m, 0⟩] } := by
 unfold Q3k
 simp only
 rw [if_pos hm, if_neg (by rw [h]; simp), Q86 h]
theorem Qa9 {i : LIns} {S : Spc} {m : Int} (h : Q15 i = true) (hm : 0 ≤ m ∧ m < S.pl.words.length) : Q3k i S m = { S with seen := S.seen ++ [⟨2, m, 1⟩], pl := { S.pl with at_ := S.pl.at_ + 1, past := S.pl.past.set m.toNat (S.pl.past.getD m.toNat [] ++ [S.pl.words.getD m.toNat 0]), words := S.pl.words.set m.toNat (rg S.pl.regs i.a) } } := by
 unfold Q3k
 simp only
 rw [if_pos hm, if_pos h, Q87 h]
theorem Qci {i : LIns} {n : Nat} {s : Spc} (h : ¬ (0 < s.choice ∧ s.choice ≤ (s.pl.past.getD n []).length)) : Q26 i n s = ((s.goTo (s.pl.at_ + 1)).chosen).put_ i.a (s.pl.words.getD n 0) := by
 unfold Q26
 simp only
 rw [if_neg h]
theorem Qcj {i : LIns} {n : Nat} {s : Spc} (h : 0 < s.choice ∧ s.choice ≤ (s.pl.past.getD n []).length) : Q26 i n s = (((s.goTo (s.pl.at_ + 1)).chosen).put_ i.a (s.pl.words.getD n 0)).leave.put_ i.a ((s.pl.past.getD n []).getD ((s.pl.past.getD n []).length - s.choice.toNat) 0) := by
 unfold Q26
 simp only
 rw [if_pos h]
theorem Q7d {p : Q01} {i : LIns} {S : Spc} (h : Q31 p i (Q1n S.pl.regs i) = false) (ha : S.ahead = false) : Q1e p i S = { S with fin := 2 } := by
 unfold Q1e
 simp only
 rw [if_pos (by rw [h, ha]; rfl)]
theorem RSt.regRow (h : RSt wB w g vG vC V S) (hl : S.pl.regs.length = 10) : ∃ k c Y, V.vR = .slice (some ⟨k, 0, none⟩) 10 c ∧ Blk w k 2 (regW Y S.pl.regs) ∧ k ≠ g := by
 have hr := h.core.fam.at_ (Q4m V S)
 obtain ⟨k, c, hv, -, -⟩ := own_at' hr (by omega)
 rw [hv] at hr
 obtain ⟨Y, hY⟩ := Qeb hr
 rw [hl] at hv
 exact ⟨k, c, Y, hv, hY, Blk.ne_ hY h.box (by decide)⟩
theorem RSt.wordRow (h : RSt wB w g vG vC V S) {N x : Nat} (hl : S.pl.words.length = N) (hx : x < N) : ∃ k c, V.vW = .slice (some ⟨k, 0, none⟩) N c ∧ k < w.heap.size ∧ w.cell? ⟨k, x, none⟩ = some (.int .i64 (S.pl.words.getD x 0)) ∧ w.frozen? ⟨k, x, none⟩ = false := by
 have hr := h.core.fam.at_ (Q3r V S)
 obtain ⟨k, c, hv, -, hc⟩ := own_at' hr (by omega)
 rw [hl] at hv
 obtain ⟨h1, h2⟩ := hc x (.int .i64 (S.pl.words.getD x 0)) (by omega) (by simp [show x < S.pl.words.length by omega])
 have h3 := Q0s h1
 exact ⟨k, c, hv, h3, h1, h2⟩
theorem RSt.wordLen (h : RSt wB w g vG vC V S) {N : Nat} (hl : S.pl.words.length = N) : ∃ o c, V.vW = .slice o N c := by
 have := Q0m (h.core.fam.at_ (Q3r V S))
 rw [hl] at this
 exact this
theorem RSt.pastRow (h : RSt wB w g vG vC V S) {N x : Nat} (hl : S.pl.past.length = N) (hx : x < N) : ∃ kp cp ol cl, V.vP = .slice (some ⟨kp, 0, none⟩) N cp ∧ kp < w.heap.size ∧ kp ≠ g ∧ w.cell? ⟨kp, x, none⟩ = some (.slice ol (S.pl.past.getD x []).length cl) ∧ w.frozen? ⟨kp, x, none⟩ = false ∧
  V.vs.getD x undef = .slice ol (S.pl.past.getD x []).length cl ∧ w.ownsRow wB.heap.size 2 1 (.slice ol (S.pl.past.getD x []).length cl) (S.pl.past.getD x []).length ((S.pl.past.getD x []).map (Value.int .i64)) := by
 have ho := h.core.out
 have hvl : V.vs.length = N := by have := ho.1; omega
 obtain ⟨kp, cp, hv, -, hc⟩ := own_at' ho (by omega)
 have hi := Q7w V S (n := x) (by omega) (by omega)
 have hr := h.core.fam.at_ hi
 obtain ⟨ol, cl, he⟩ := Q0m hr
 obtain ⟨h1, h2⟩ := hc x (V.vs.getD x undef) (by omega) (by simp [show x < V.vs.length by omega])
 have h3 := Q0s h1
 have hne := Q06 ho h.box (by decide)
 rw [hv] at hne
 rw [hl] at hv
 rw [he] at h1 hr
 exact ⟨kp, cp, ol, cl, hv, h3, fun e => hne (by rw [← e]; rfl), h1, h2, he, hr⟩
end
set_option maxRecDepth 100000 in
set_option maxHeartbeats 8000000 in
theorem Qdq {wB w : World} {g : Nat} {vG vC : Value} {V : RV} {S : Spc} {p : Q01} {N : Nat} (i : LIns) (hw : i.op = 3 ∨ i.op = 4 ∨ i.op = 5 ∨ i.op = 6) (hi : Q00 p 10 i = true) (hfi : i.fits) (hr : Q0h p.regs = true) (hp : Q10 wB (.agg #[vG, vC]) p) (hm : SMid p N S) (hN : N ≤ 1000000)
  (hat : S.pl.at_ < p.code.length) (hcl : p.code.length ≤ 1000000) (hsn : S.seen.length ≤ 900000) (h : RSt wB w g vG vC V S) :
  Calls Try.prog 49 #[.pointer (some ⟨g, 0, none⟩), insV i, .int .i64 (putN i)] w (Q5n wB w g vG vC (Q1e p i S) (.tuple #[])) := by
 obtain ⟨ha, hb, hc0, hc1⟩ := Q9d hi hw
 have hbe := Q6a p i.c.toNat hc1
 have htt := Q42 hr
 have hlen := Q44 hr
 have hlog := Q4p hr _ (Q1f (l := p.regs) hc1)
 have hw6 : Q09 (p.regs.getD i.c.toNat default) ≤ 64 := Q4i _ hlog.2
 have HP := Lib.hid hp
 have Hm := Lib.hid hm
 have H := Lib.hid h
 obtain ⟨v1, v2, hv, ⟨hrl, oR, cR, bR, fR, rfl, hc1', hc2', hrow⟩, ⟨-, oC, cC, bC, fC, rfl, -⟩⟩ := hp
 simp only [Value.agg.injEq, Array.mk.injEq, List.cons.injEq, and_true] at hv
 obtain ⟨rfl, rfl⟩ := hv
 have hixR := Q32 (cap := cR) hrow.at_
 have Hrow := Lib.hid hrow
 have Hr := Lib.hid hr
 have Hfi := Lib.hid hfi
 have Ha := Lib.hid ha
 have Hb := Lib.hid hb
 have Hc1 := Lib.hid hc1
 have Hsn := Lib.hid hsn
 have Hat := Lib.hid hat
 have Hw := Lib.hid hw
 have Hl := Lib.hid hm.pl.len
 obtain ⟨kR, cr, Y, hvR, hbR, hkg⟩ := h.regRow hm.pl.len
 have HvR := Lib.hid hvR
 have HbR := Lib.hid hbR
 have hgl := h.box.lt
 have g0 : w.cell? ⟨g, 0, none⟩ = some (.slice (some ⟨kR, 0, none⟩) 10 cr) := by rw [h.box.cell, ← hvR]; rfl
 have g4 : w.cell? ⟨g, 4, none⟩ = some (.slice oR p.regs.length cR) := by rw [h.box.cell]; rfl
 have Hput : Hid (putN i = if Q15 i then 1 else 0) := Lib.hid rfl
 have HIn : Hid (∀ x, Q31 p i x = (decide (0 ≤ x) && decide (x < (Q09 (p.regs.getD i.c.toNat default) : Nat)))) := Lib.hid fun x => rfl
 have HWS : Hid (Q1e p i S = Q1e p i S) := Lib.hid rfl
 generalize hT : Q1e p i S = T at *
 have HT := Lib.hid hT
 clear hT HWS
 obtain ⟨op, a, b, c, n⟩ := i
 simp only at ha hb hc0 hc1 hbe hw6 hlog
 obtain ⟨a0, a1⟩ := Q0l.1 ha
 have hcl2 : c < (p.regs.length : Int) := by omega
 have hlg := hlog
 obtain ⟨e0r, e1r⟩ := (hrow.ext h.core.ext).reg c.toNat hc1
 unfold insV
 simp only
 clear hi hr hrow hc1' hc2' hfi hw hm h hvR hbR hsn hlog
 go_enter Try.func49, Try.ntmps49
 go_upto_region 1 with fail
 obtain ⟨w0, e, he, hW, hs0, hx0, c0, c1, c2, c3, c4⟩ := new5 w 71 (.int .i64 op) (.int .i64 a) (.int .i64 b) (.int .i64 c) (.int .i64 n)
 have bI : Blk w0 e 71 #[.int .i64 op, .int .i64 a, .int .i64 b, .int .i64 c, .int .i64 n] := by rw [← hW, ← he]; exact Blk.new _ _ _
 rw [hW, he]
 have X := Lib.hid hx0
 have hge : g ≠ e := by omega
 have hew : w.heap.size = e := he
 have k0 : ∀ Wx, Ext w0 Wx → Wx.cell? ⟨g, 0, none⟩ = some (.slice (some ⟨kR, 0, none⟩) 10 cr) := fun _ h => h.kept (X.out.kept g0)
 have q0 : ∀ Wx, Ext w0 Wx → Wx.cell? ⟨e, 0, none⟩ = some (.int .i64 op) := fun _ h => h.kept c0
 have q1 : ∀ Wx, Ext w0 Wx → Wx.cell? ⟨e, 1, none⟩ = some (.int .i64 a) := fun _ h => h.kept c1
 have q2 : ∀ Wx, Ext w0 Wx → Wx.cell? ⟨e, 2, none⟩ = some (.int .i64 b) := fun _ h => h.kept c2
 have q3 : ∀ Wx, Ext w0 Wx → Wx.cell? ⟨e, 3, none⟩ = some (.int .i64 c) := fun _ h => h.kept c3
 have q4 : ∀ Wx, Ext w0 Wx → Wx.cell? ⟨e, 4, none⟩ = some (.int .i64 n) := fun _ h => h.kept c4
 have CI : ∀ Wx, Ext w0 Wx → Hid (Calls Try.prog 64 #[.slice (some ⟨kR, 0, none⟩) 10 cr, .agg #[.int .i64 op, .int .i64 a, .int .i64 b, .int .i64 c, .int .i64 n]] Wx fun e w' => e = .returned (.int .i64 (Q1n S.pl.regs ⟨op, a, b, c, n⟩)) ∧ Ext Wx w') := fun Wx hE => Lib.hid (Qf1 kR Y cr S.pl.regs _ ⟨op, a, b, c, n⟩ Hl.out Hb.out Wx (HbR.out.ext (X.out.trans hE)))
 clear hW hs0 hx0 g0 c0 c1 c2 c3 c4
 generalize hx : Q1n S.pl.regs ⟨op, a, b, c, n⟩ = x at *
 refine Q0i 8 (by kernel_rfl) (by kernel_rfl) ?_
 simp only [List.take_succ_cons, List.take_zero, List.drop_succ_cons, List.drop_zero]
 repeat (first | (refine Q0e ?_ ?_ (fun wc hE => ?_) ?_; (decide); rfl; (focus (go_simp; done)); go_simp) | (refine Q0a ?_ ?_ ?_; (decide); (first | rfl | (focus (go_simp; done))); apply Exists.intro; refine ⟨fun wc hE => ?_, ?_⟩; (go_simp; exact rfl); go_simp) | (refine Q0f ?_ ?_ ?_; (decide); (first | rfl | (focus (go_simp; done))); apply Exists.intro; refine ⟨fun wc hE => ?_, ?_⟩; (go_simp; (first | (with_reducible exact Q1p ((CI _ hE).out)))); go_simp) | (refine Q0c ?_ ?_ ?_; (decide); (focus (go_simp; done)); go_simp))
 refine Q0d ?_
 intro w1 hx1
 have X := Lib.hid (X.out.trans hx1)
 have bI := bI.ext hx1
 clear k0 q0 q1 q2 q3 q4 CI hx1
 go_upto_region 2 with fail
 have HInx := Lib.hid (HIn.out x)
 simp only at HInx
 generalize hrr : p.regs.getD c.toNat default = rr at *
 have Hrr := Lib.hid hrr
 have CW : ∀ Wx, Ext w1 Wx → Hid (Calls Try.prog 29 #[.agg #[.int .i64 rr.log, .bool rr.secret]] Wx fun e w' => e = .returned (.int .i64 (Q09 rr : Nat)) ∧ Ext Wx w') := fun Wx _ => Lib.hid (Q55 rr hlg.1 hlg.2 Wx)
 have k4 : ∀ Wx, Ext w1 Wx → Wx.cell? ⟨g, 4, none⟩ = some (.slice oR p.regs.length cR) := fun _ h => h.kept (X.out.kept g4)
 have q3 : ∀ Wx, Ext w1 Wx → Wx.cell? ⟨e, 3, none⟩ = some (.int .i64 c) := fun _ h => h.kept (by rw [bI.cell]; rfl)
 have r0 : ∀ Wx, Ext w1 Wx → Wx.cell? ⟨bR, fR + c.toNat * 2, none⟩ = some (.int .i64 rr.log) := fun _ h => h.kept (X.out.kept e0r)
 have r1 : ∀ Wx, Ext w1 Wx → Wx.cell? ⟨bR, fR + c.toNat * 2 + 1, none⟩ = some (.bool rr.secret) := fun _ h => h.kept (X.out.kept e1r)
 clear hrr
 refine Q0i 11 (by kernel_rfl) (by kernel_rfl) ?_
 simp only [List.take_succ_cons, List.take_zero, List.drop_succ_cons, List.drop_zero]
 repeat (first | (refine Q0e ?_ ?_ (fun wc hE => ?_) ?_; (decide); rfl; (focus (go_simp; done)); go_simp) | (refine Q0a ?_ ?_ ?_; (decide); (first | rfl | (focus (go_simp; done))); apply Exists.intro; refine ⟨fun wc hE => ?_, ?_⟩; (go_simp; exact rfl); go_simp) | (refine Q0f ?_ ?_ ?_; (decide); (first | rfl | (focus (go_simp; done))); apply Exists.intro; refine ⟨fun wc hE => ?_, ?_⟩; (go_simp; (first | (with_reducible exact Q1p ((CW _ hE).out)))); go_simp) | (refine Q0c ?_ ?_ ?_; (decide); (focus (go_simp; done)); go_simp))
 refine Q0d ?_
 intro w2 hx2
 have X := Lib.hid (X.out.trans hx2)
 have bI := bI.ext hx2
 clear k4 q3 r0 r1 CW hx2 e0r e1r
 have P2 := Lib.hid (H.out.extend X.out)
 have hgl2 := P2.out.box.lt
 have g12 : w2.cell? ⟨g, 12, none⟩ = some (.bool S.ahead) := by rw [P2.out.box.cell]; rfl
 have hq : (S.ahead = false ∧ x < 0) ∨ (S.ahead = false ∧ 0 ≤ x ∧ (Q09 rr : Int) ≤ x) ∨ (S.ahead = false ∧ 0 ≤ x ∧ x < (Q09 rr : Int)) ∨ S.ahead = true := by
  cases S.ahead
  ·by_cases h0 : x < 0
   ·exact .inl ⟨rfl, h0⟩
   ·by_cases h1 : (Q09 rr : Int) ≤ x
    ·exact .inr (.inl ⟨rfl, by omega, h1⟩)
    ·exact .inr (.inr (.inl ⟨rfl, by omega, by omega⟩))
  ·exact .inr (.inr (.inr rfl))
 have Hx : Hid (Q1n S.pl.regs ⟨op, a, b, c, n⟩ = x) := Lib.hid hx
 clear hx
 rcases hq with ⟨ha, h0⟩ | ⟨ha, h0, h1⟩ | hq
 ·have hin : Q31 p ⟨op, a, b, c, n⟩ x = false := by rw [HInx.out]; simp; omega
  have HTf := Lib.hid (HT.out.symm.trans (Q7d (by rw [Hx.out]; exact hin) ha))
  rw [ha] at g12
  have g6 : w2.cell? ⟨g, 6, none⟩ = some (.int .i64 S.fin) ∧ w2.frozen? ⟨g, 6, none⟩ = false := ⟨by rw [P2.out.box.cell]; rfl, P2.out.box.frozen _⟩
  have hd : decide (x < 0) = true := by simpa using h0
  clear ha hin
  go_wp2
  refine bodyPost_end (results_none rfl _ _ _) rfl ?_
  rw [HTf.out]
  exact ⟨rfl, _, P2.out.fin_ 2, (Q03.ofExt X.out).trans (P2.out.stays 6 _)⟩
 ·have hin : Q31 p ⟨op, a, b, c, n⟩ x = false := by rw [HInx.out]; simp; omega
  have HTf := Lib.hid (HT.out.symm.trans (Q7d (by rw [Hx.out]; exact hin) ha))
  rw [ha] at g12
  have g6 : w2.cell? ⟨g, 6, none⟩ = some (.int .i64 S.fin) ∧ w2.frozen? ⟨g, 6, none⟩ = false := ⟨by rw [P2.out.box.cell]; rfl, P2.out.box.frozen _⟩
  have hd : decide (x < 0) = false := by simp; omega
  have hd2 : decide ((Q09 rr : Int) ≤ x) = true := by simpa using h1
  clear ha hin
  go_wp2
  refine bodyPost_end (results_none rfl _ _ _) rfl ?_
  rw [HTf.out]
  exact ⟨rfl, _, P2.out.fin_ 2, (Q03.ofExt X.out).trans (P2.out.stays 6 _)⟩
 have hnf : (!Q31 p ⟨op, a, b, c, n⟩ x && !S.ahead) = false := by
  rcases hq with ⟨ha, h0, h1⟩ | ha
  ·have : Q31 p ⟨op, a, b, c, n⟩ x = true := by rw [HInx.out]; simp; omega
   rw [this]; rfl
  ·rw [ha]; simp
 have HTr := Lib.hid (HT.out.symm.trans (Q9e (by rw [Hx.out]; exact hnf)))
 have CBa : ∀ Wx, Ext w2 Wx → Hid (Calls Try.prog 28 #[.agg #[.slice oR p.regs.length cR, .slice oC p.code.length cC], .int .i64 c] Wx fun e w' => e = .returned (.int .i64 (Q0k p c.toNat : Nat)) ∧ Ext Wx w') := fun Wx hE => Lib.hid (Qak p c _ Wx (HP.out.ext (P2.out.core.ext.trans hE)) Hr.out hc0 Hc1.out)
 have k4 : ∀ Wx, Ext w2 Wx → Wx.cell? ⟨g, 4, none⟩ = some (.slice oR p.regs.length cR) := fun _ h => h.kept (by rw [P2.out.box.cell]; rfl)
 have k5 : ∀ Wx, Ext w2 Wx → Wx.cell? ⟨g, 5, none⟩ = some (.slice oC p.code.length cC) := fun _ h => h.kept (by rw [P2.out.box.cell]; rfl)
 have q3 : ∀ Wx, Ext w2 Wx → Wx.cell? ⟨e, 3, none⟩ = some (.int .i64 c) := fun _ h => h.kept (by rw [bI.cell]; rfl)
 rw [Hx.out] at HTr
 simp only at HTr
 generalize hbo : Q0k p c.toNat = bo at *
 generalize hpp : putN ⟨op, a, b, c, n⟩ = pn at *
 have Hpp := Lib.hid hpp
 clear hnf hbo hbe hpp HInx HIn Hput HT
 rcases hq with ⟨ha, h0, h1⟩ | ha
 all_goals
  rw [ha] at g12
  clear ha
  try (have hd : decide (x < 0) = false := by simp; omega)
  try (have hd2 : decide ((Q09 rr : Int) ≤ x) = false := by simp; omega)
  go_upto_region 5 with fail
  refine Q0i 8 (by kernel_rfl) (by kernel_rfl) ?_
  simp only [List.take_succ_cons, List.take_zero, List.drop_succ_cons, List.drop_zero]
  repeat (first | (refine Q0e ?_ ?_ (fun wc hE => ?_) ?_; (decide); rfl; (focus (go_simp; done)); go_simp) | (refine Q0a ?_ ?_ ?_; (decide); (first | rfl | (focus (go_simp; done))); apply Exists.intro; refine ⟨fun wc hE => ?_, ?_⟩; (go_simp; exact rfl); go_simp) | (refine Q0f ?_ ?_ ?_; (decide); (first | rfl | (focus (go_simp; done))); apply Exists.intro; refine ⟨fun wc hE => ?_, ?_⟩; (go_simp; (first | (with_reducible exact Q1p ((CBa _ hE).out)))); go_simp) | (refine Q0c ?_ ?_ ?_; (decide); (focus (go_simp; done)); go_simp))
  refine Q0d ?_
  intro w3 hx3
  try clear hd
  try clear hd2
  have X3 := Lib.hid (X.out.trans hx3)
  have P3 := Lib.hid (P2.out.extend hx3)
  have bI3 := bI.ext hx3
  clear k4 k5 q3 CBa hx3
  go_wp2_with fail
  generalize wrap64 ((bo : Int) + x) = m at *
  have C := Q7u P3.out 2 m pn (Nat.le_trans Hsn.out (by omega))
  (with_reducible refine C.mono ?_)
  clear C
  rintro er w4 ⟨rfl, V4, P4, T4⟩
  have bI4 := T4.blk bI3 (by decide) (by decide) (by decide) (by decide)
  have T4 := Lib.hid ((Q03.ofExt X3.out).trans T4)
  have g3 : w4.cell? ⟨g, 3, none⟩ = some (.int .i64 (S.pl.at_ : Int)) ∧ w4.frozen? ⟨g, 3, none⟩ = false := ⟨by rw [P4.box.cell]; rfl, P4.box.frozen _⟩
  have hgl4 := P4.box.lt
  have hel4 := bI4.lt
  have P5 := P4.at__ (S.pl.at_ + 1)
  have T5 := T4.out.trans (P4.stays 3 (.int .i64 ((S.pl.at_ + 1 : Nat) : Int)))
  have bI5 := bI4.far (p := ⟨g, 3, none⟩) (Ne.symm hge) (.int .i64 ((S.pl.at_ + 1 : Nat) : Int))
  rw [show ((S.pl.at_ + 1 : Nat) : Int) = (S.pl.at_ : Int) + 1 by omega] at P5 T5 bI5
  obtain ⟨ow, cw, hvW⟩ := P4.wordLen (N := Q0b p) Hm.out.pl.wlen
  have g1 : w4.cell? ⟨g, 1, none⟩ = some (.slice ow (Q0b p) cw) := by rw [P4.box.cell, ← hvW]; rfl
  have P5 := Lib.hid P5
  have T5 := Lib.hid T5
  have BI5 := Lib.hid bI5
  have hcw : (S.pl.at_ : Int) + 1 ≤ 1000000 := by omega
  clear P4 T4 bI4 bI5 hvW
  have hq2 : m < 0 ∨ (0 ≤ m ∧ (Q0b p : Int) ≤ m) ∨ (0 ≤ m ∧ m < (Q0b p : Int)) := by omega
  cases hput : Q15 ⟨op, a, b, c, n⟩
  ·obtain rfl : pn = 0 := by rw [← Hpp.out, Q86 hput]
   have Hput := Lib.hid hput
   clear hput
   rcases hq2 with m0 | ⟨m0, m1⟩ | ⟨m0, m1⟩
   rotate_right 1
   ·have hmw : 0 ≤ m ∧ m < (S.pl.words.length : Int) := by rw [Hm.out.pl.wlen]; exact ⟨m0, m1⟩
    have HTo := Lib.hid (HTr.out.trans (Qa8 Hput.out hmw))
    have hd : decide (m < 0) = false := by simp; omega
    have hd2 : decide ((Q0b p : Int) ≤ m) = false := by simp; omega
    clear hmw
    go_wp2_with fail
    clear hd hd2
    generalize w4.setCell ⟨g, 3, none⟩ (.int .i64 ((S.pl.at_ : Int) + 1)) = w5 at *
    clear g3 g1
    have C := Q7z P5.out
    (with_reducible refine C.mono ?_)
    clear C
    rintro er w6 ⟨rfl, V6, P6, T6⟩
    have hch : (({ S with seen := S.seen ++ [⟨2, m, 0⟩] } : Spc).goTo (S.pl.at_ + 1)).choice = S.choice := rfl
    rw [hch]
    have bI6 := T6.blk BI5.out (by decide) (by decide) (by decide) (by decide)
    have T6 := Lib.hid (T5.out.trans T6)
    have hmn : m.toNat < Q0b p := by omega
    obtain ⟨kR', cR', Y', hvR', hbR', hkg'⟩ := P6.regRow Hl.out
    obtain ⟨ra, fa⟩ := Q1s hbR' Hl.out Ha.out
    obtain ⟨kw3, cw3, hvW3, hkw3, wc3, -⟩ := P6.wordRow (N := Q0b p) (x := m.toNat) Hm.out.pl.wlen hmn
    replace wc3 : w6.cell? ⟨kw3, m.toNat, none⟩ = some (.int .i64 (S.pl.words.getD m.toNat 0)) := wc3
    have k0 : ∀ Wx, Ext w6 Wx → Wx.cell? ⟨g, 0, none⟩ = some (.slice (some ⟨kR', 0, none⟩) 10 cR') := fun _ h => h.kept (by rw [P6.box.cell, ← hvR']; rfl)
    have k1 : ∀ Wx, Ext w6 Wx → Wx.cell? ⟨g, 1, none⟩ = some (.slice (some ⟨kw3, 0, none⟩) (Q0b p) cw3) := fun _ h => h.kept (by rw [P6.box.cell, ← hvW3]; rfl)
    have kz : ∀ Wx, Ext w6 Wx → Wx.cell? ⟨kw3, m.toNat, none⟩ = some (.int .i64 (S.pl.words.getD m.toNat 0)) := fun _ h => h.kept wc3
    have q1 : ∀ Wx, Ext w6 Wx → Wx.cell? ⟨e, 1, none⟩ = some (.int .i64 a) := fun _ h => h.kept (by rw [bI6.cell]; rfl)
    have hgl6 := P6.box.lt
    have hel6 := bI6.lt
    have hkl6 := hbR'.lt
    have hixr := Q1v
    have P6 := Lib.hid P6
    generalize hz : S.pl.words.getD m.toNat 0 = z at *
    generalize hcc : S.choice = ch at *
    have Hz := Lib.hid hz
    have Hcc := Lib.hid hcc
    clear hz hcc hch
    go_upto_region 16 with fail
    refine Q0i 15 (by kernel_rfl) (by kernel_rfl) ?_
    simp only [List.take_succ_cons, List.take_zero, List.drop_succ_cons, List.drop_zero]
    repeat (first | (refine Q0e ?_ ?_ (fun wc hE => ?_) ?_; (decide); rfl; (focus (go_simp; done)); go_simp) | (refine Q0a ?_ ?_ ?_; (decide); (first | rfl | (focus (go_simp; done))); apply Exists.intro; refine ⟨fun wc hE => ?_, ?_⟩; (go_simp; exact rfl); go_simp) | (refine Q0f ?_ ?_ ?_; (decide); (first | rfl | (focus (go_simp; done))); apply Exists.intro; refine ⟨fun wc hE => ?_, ?_⟩; (go_simp; (first | fail)); go_simp) | (refine Q0c ?_ ?_ ?_; (decide); (focus (go_simp; done)); go_simp))
    refine Q0d ?_
    intro w7 hx7
    have rr := Q07 hx7 ⟨ra, fa⟩
    try simp only at rr
    have P7 := P6.out.extend hx7
    obtain ⟨P8, T8⟩ := P7.reg (x := a.toNat) hvR' z
    have T8 := Lib.hid ((T6.out.ext hx7).trans T8)
    have hke : e ≠ kR' := fun h => Blk.ne_ bI6 hbR' (by decide) h
    have bI8 := (bI6.ext hx7).far (p := ⟨kR', a.toNat, none⟩) hke (.int .i64 z)
    clear k0 k1 kz q1 ra fa wc3 hx7 P7 hbR' hvR' hvW3 hke bI6
    go_upto_region 17 with fail
    generalize w7.setCell ⟨kR', a.toNat, none⟩ (.int .i64 z) = w8 at *
    clear rr
    obtain ⟨kp, cp, ol, cl, hvP, hkp, hkpg, pc, -, -, hown⟩ := P8.pastRow (N := Q0b p) (x := m.toNat) Hm.out.pl.plen hmn
    replace pc : w8.cell? ⟨kp, m.toNat, none⟩ = some (.slice ol (S.pl.past.getD m.toNat []).length cl) := pc
    replace hown : w8.ownsRow wB.heap.size 2 1 (.slice ol (S.pl.past.getD m.toNat []).length cl) (S.pl.past.getD m.toNat []).length ((S.pl.past.getD m.toNat []).map (Value.int .i64)) := hown
    have g2 : w8.cell? ⟨g, 2, none⟩ = some (.slice (some ⟨kp, 0, none⟩) (Q0b p) cp) := by rw [P8.box.cell, ← hvP]; rfl
    have hixs := Q8j
    have hrow8 := (Hm.out.pl.row m.toNat).1
    have P8 := Lib.hid P8
    have hgl8 := P8.out.box.lt
    have BI8 := Lib.hid bI8
    have hel8 := bI8.lt
    generalize hrow5 : S.pl.past.getD m.toNat [] = row at *
    have Hrow5 := Lib.hid hrow5
    clear bI8 hvP hrow5
    by_cases hcond : 0 < ch ∧ ch ≤ (row.length : Int)
    ·have HTb : Hid (T = ((((({ S with seen := S.seen ++ [⟨2, m, 0⟩] } : Spc).goTo (S.pl.at_ + 1)).chosen).put_ a z).leave).put_ a (row.getD (row.length - ch.toNat) 0)) := Lib.hid (by
      rw [← Hrow5.out, ← Hcc.out, ← Hz.out]
      rw [← Hrow5.out, ← Hcc.out] at hcond
      exact HTo.out.trans (Qcj hcond))
     obtain ⟨c0, c1⟩ := hcond
     have hj : row.length - ch.toNat < row.length := by omega
     obtain ⟨kq, cq, hvq, -, hcq⟩ := own_at' hown (by omega)
     simp only [Value.slice.injEq, true_and] at hvq
     obtain ⟨rfl, rfl⟩ := hvq
     obtain ⟨rq, -⟩ := hcq (row.length - ch.toNat) (.int .i64 (row.getD (row.length - ch.toNat) 0)) hj (by simp [hj])
     have hkq := Q0s rq
     simp only at hkq
     have hix : ∀ W, (Instr.indexAt 52 (.slice (some ⟨kq, 0, none⟩) row.length cl) (.int .i64 ((row.length : Int) - ch))).run Try.prog W = .ok (.pointer (some ⟨kq, row.length - ch.toNat, none⟩)) W := fun W => by
      have := Q1v W kq row.length cl ((row.length : Int) - ch) (by omega) (by omega)
      rw [show ((row.length : Int) - ch).toNat = row.length - ch.toNat by omega] at this
      exact this
     have hd3 : decide (0 < ch) = true := by simpa using c0
     have hd4 : decide (ch ≤ (row.length : Int)) = true := by simpa using c1
     have hrN : (row.length : Int) ≤ 1000000 := by omega
     generalize row.getD (row.length - ch.toNat) 0 = was at *
     generalize row.length - ch.toNat = jj at *
     clear hown hcq
     go_wp2_with fail
     have hpl8 : PlOk p N (((({ S with seen := S.seen ++ [⟨2, m, 0⟩] } : Spc).goTo (S.pl.at_ + 1)).chosen).put_ a z).pl := (Hm.out.pl.goTo (k := S.pl.at_ + 1) (by have := Hat.out; omega)).reg a (by rw [← Hz.out]; exact Hm.out.pl.w64 _)
     have C := Q7x P8.out hpl8 (by omega) hN
     (with_reducible refine C.mono ?_)
     clear C
     rintro er w9 ⟨rfl, V9, P9, T9⟩
     have bI9 := T9.blk BI8.out (by decide) (by decide) (by decide) (by decide)
     have T9 := Lib.hid (T8.out.trans T9)
     have hl9 : ((((({ S with seen := S.seen ++ [⟨2, m, 0⟩] } : Spc).goTo (S.pl.at_ + 1)).chosen).put_ a z).leave).pl.regs.length = 10 := by rw [Qgu]; exact hpl8.len
     obtain ⟨kR9, cR9, Y9, hvR9, hbR9, hkg9⟩ := P9.regRow hl9
     obtain ⟨ra, fa⟩ := Q1s hbR9 hl9 Ha.out
     have k0 : ∀ Wx, Ext w9 Wx → Wx.cell? ⟨g, 0, none⟩ = some (.slice (some ⟨kR9, 0, none⟩) 10 cR9) := fun _ h => h.kept (by rw [P9.box.cell, ← hvR9]; rfl)
     have q1 : ∀ Wx, Ext w9 Wx → Wx.cell? ⟨e, 1, none⟩ = some (.int .i64 a) := fun _ h => h.kept (by rw [bI9.cell]; rfl)
     have hgl9 := P9.box.lt
     have hel9 := bI9.lt
     have hkl9 := hbR9.lt
     have P9 := Lib.hid P9
     clear hd3 hd4 hix rq pc g2 hl9
     go_upto_region 21 with fail
     refine Q0i 8 (by kernel_rfl) (by kernel_rfl) ?_
     simp only [List.take_succ_cons, List.take_zero, List.drop_succ_cons, List.drop_zero]
     repeat (first | (refine Q0e ?_ ?_ (fun wc hE => ?_) ?_; (decide); rfl; (focus (go_simp; done)); go_simp) | (refine Q0a ?_ ?_ ?_; (decide); (first | rfl | (focus (go_simp; done))); apply Exists.intro; refine ⟨fun wc hE => ?_, ?_⟩; (go_simp; exact rfl); go_simp) | (refine Q0f ?_ ?_ ?_; (decide); (first | rfl | (focus (go_simp; done))); apply Exists.intro; refine ⟨fun wc hE => ?_, ?_⟩; (go_simp; (first | fail)); go_simp) | (refine Q0c ?_ ?_ ?_; (decide); (focus (go_simp; done)); go_simp))
     refine Q0d ?_
     intro w10 hx10
     have rr := Q07 hx10 ⟨ra, fa⟩
     try simp only at rr
     have P10 := P9.out.extend hx10
     obtain ⟨P11, T11⟩ := P10.reg (x := a.toNat) hvR9 was
     have P11 := Lib.hid P11
     have T11 := Lib.hid ((T9.out.ext hx10).trans T11)
     clear k0 q1 ra fa hx10 P10 hbR9 hvR9 bI9
     go_wp2
     refine bodyPost_end (results_none rfl _ _ _) rfl ?_
     rw [HTb.out]
     exact ⟨rfl, _, P11.out, T11.out⟩
    ·have HTb : Hid (T = ((({ S with seen := S.seen ++ [⟨2, m, 0⟩] } : Spc).goTo (S.pl.at_ + 1)).chosen).put_ a z) := Lib.hid (by
      rw [← Hz.out]
      rw [← Hrow5.out, ← Hcc.out] at hcond
      exact HTo.out.trans (Qci hcond))
     have hq4 : decide (0 < ch) = false ∨ (decide (0 < ch) = true ∧ decide (ch ≤ (row.length : Int)) = false) := by
      by_cases h0 : 0 < ch
      ·exact .inr ⟨by simpa using h0, by simp; omega⟩
      ·exact .inl (by simpa using h0)
     clear hcond hown
     rcases hq4 with hd3 | ⟨hd3, hd4⟩
     all_goals
      go_wp2
      refine bodyPost_end (results_none rfl _ _ _) rfl ?_
      rw [HTb.out]
      exact ⟨rfl, _, P8.out, T8.out⟩
   all_goals
    have HTo := Lib.hid (HTr.out.trans (Qaa Hput.out (by rw [Hm.out.pl.wlen]; omega)))
    try (have hd : decide (m < 0) = true := by simpa using m0)
    try (have hd : decide (m < 0) = false := by simp; omega)
    try (have hd2 : decide ((Q0b p : Int) ≤ m) = true := by simpa using m1)
    go_upto_region 11 with fail
    generalize w4.setCell ⟨g, 3, none⟩ (.int .i64 ((S.pl.at_ : Int) + 1)) = w5 at *
    clear g3 g1
    obtain ⟨kR', cR', Y', hvR', hbR', hkg'⟩ := P5.out.regRow Hl.out
    obtain ⟨ra, fa⟩ := Q1s hbR' Hl.out Ha.out
    have hixr := Q1v
    have k0 : ∀ Wx, Ext w5 Wx → Wx.cell? ⟨g, 0, none⟩ = some (.slice (some ⟨kR', 0, none⟩) 10 cR') := fun _ h => h.kept (by rw [P5.out.box.cell, ← hvR']; rfl)
    have q1 : ∀ Wx, Ext w5 Wx → Wx.cell? ⟨e, 1, none⟩ = some (.int .i64 a) := fun _ h => h.kept (by rw [BI5.out.cell]; rfl)
    have hgl5 := P5.out.box.lt
    have hel5 := BI5.out.lt
    have hkl5 := hbR'.lt
    refine Q0i 7 (by kernel_rfl) (by kernel_rfl) ?_
    simp only [List.take_succ_cons, List.take_zero, List.drop_succ_cons, List.drop_zero]
    repeat (first | (refine Q0e ?_ ?_ (fun wc hE => ?_) ?_; (decide); rfl; (focus (go_simp; done)); go_simp) | (refine Q0a ?_ ?_ ?_; (decide); (first | rfl | (focus (go_simp; done))); apply Exists.intro; refine ⟨fun wc hE => ?_, ?_⟩; (go_simp; exact rfl); go_simp) | (refine Q0f ?_ ?_ ?_; (decide); (first | rfl | (focus (go_simp; done))); apply Exists.intro; refine ⟨fun wc hE => ?_, ?_⟩; (go_simp; (first | fail)); go_simp) | (refine Q0c ?_ ?_ ?_; (decide); (focus (go_simp; done)); go_simp))
    refine Q0d ?_
    intro w6 hx6
    have rr := Q07 hx6 ⟨ra, fa⟩
    try simp only at rr
    have P6 := P5.out.extend hx6
    obtain ⟨P7, T7⟩ := P6.reg (x := a.toNat) hvR' 0
    have P7 := Lib.hid P7
    have T7 := Lib.hid ((T5.out.ext hx6).trans T7)
    clear k0 q1 ra fa hx6 P6 hbR' hvR'
    go_wp2
    refine bodyPost_end (results_none rfl _ _ _) rfl ?_
    rw [HTo.out]
    exact ⟨rfl, _, P7.out, T7.out⟩
  ·obtain rfl : pn = 1 := by rw [← Hpp.out, Q87 hput]
   have Hput := Lib.hid hput
   clear hput
   rcases hq2 with m0 | ⟨m0, m1⟩ | ⟨m0, m1⟩
   rotate_right 1
   ·have hmw : 0 ≤ m ∧ m < (S.pl.words.length : Int) := by rw [Hm.out.pl.wlen]; exact ⟨m0, m1⟩
    have HTo := Lib.hid (HTr.out.trans (Qa9 Hput.out hmw))
    have hd : decide (m < 0) = false := by simp; omega
    have hd2 : decide ((Q0b p : Int) ≤ m) = false := by simp; omega
    clear hmw
    go_upto_region 13 with fail
    clear hd hd2
    generalize w4.setCell ⟨g, 3, none⟩ (.int .i64 ((S.pl.at_ : Int) + 1)) = w5 at *
    clear g3 g1
    have hmn : m.toNat < Q0b p := by omega
    obtain ⟨kp, cp, ol, cl, hvP, hkp, hkpg, pc, pf, hvs, hown⟩ := P5.out.pastRow (N := Q0b p) (x := m.toNat) Hm.out.pl.plen hmn
    obtain ⟨kw, cw2, hvW, hkw, wc, wf⟩ := P5.out.wordRow (N := Q0b p) (x := m.toNat) Hm.out.pl.wlen hmn
    have hrl5 : ((({ S with seen := S.seen ++ [⟨2, m, 1⟩] } : Spc).goTo (S.pl.at_ + 1)).pl.past.getD m.toNat []).length ≤ N := (Hm.out.pl.row m.toNat).1
    have hwg : (({ S with seen := S.seen ++ [⟨2, m, 1⟩] } : Spc).goTo (S.pl.at_ + 1)).pl.words.getD m.toNat 0 = S.pl.words.getD m.toNat 0 := rfl
    have hpg : (({ S with seen := S.seen ++ [⟨2, m, 1⟩] } : Spc).goTo (S.pl.at_ + 1)).pl.past.getD m.toNat [] = S.pl.past.getD m.toNat [] := rfl
    rw [hwg] at wc
    rw [hpg] at pc hvs hown hrl5
    have hn1 : (Value.slice ol (S.pl.past.getD m.toNat []).length cl).ownBlock ≠ some g := fun e => Q06 hown P5.out.box (by decide) e.symm
    have hn2 : (Value.slice ol (S.pl.past.getD m.toNat []).length cl).ownBlock ≠ some kp := fun e => Q13 hown P5.out.core.out (by decide) kp e (by rw [hvP]; rfl)
    have hn3 : (Value.slice ol (S.pl.past.getD m.toNat []).length cl).ownBlock ≠ some kw := fun e => by
     have hvl : V4.vs.length = Q0b p := by have := P5.out.core.out.1; have := Hm.out.pl.plen; simp only [Spc.goTo] at *; omega
     have h1 := P5.out.core.fam.ne (i := 2 + m.toNat) (j := 1) (by omega) (Q7w V4 _ (n := m.toNat) (by omega) (by have := Hm.out.pl.plen; simp only [Spc.goTo]; omega)) (Q3r V4 _) kw (by rw [hvs]; exact e)
     exact h1 (by rw [hvW]; rfl)
    have Hvs := Lib.hid hvs
    have Hown := Lib.hid hown
    have HvP := Lib.hid hvP
    generalize hrow5 : S.pl.past.getD m.toNat [] = row at *
    generalize hz : S.pl.words.getD m.toNat 0 = z at *
    have k1 : ∀ Wx, Off (.slice ol row.length cl) w5 Wx → Wx.cell? ⟨g, 1, none⟩ = some (.slice (some ⟨kw, 0, none⟩) (Q0b p) cw2) := fun _ h => h.kept (by rw [P5.out.box.cell, ← hvW]; rfl) hn1
    have k2 : ∀ Wx, Off (.slice ol row.length cl) w5 Wx → Wx.cell? ⟨g, 2, none⟩ = some (.slice (some ⟨kp, 0, none⟩) (Q0b p) cp) := fun _ h => h.kept (by rw [P5.out.box.cell, ← hvP]; rfl) hn1
    have kc : ∀ Wx, Off (.slice ol row.length cl) w5 Wx → Wx.cell? ⟨kp, m.toNat, none⟩ = some (.slice ol row.length cl) := fun _ h => h.kept pc hn2
    have kz : ∀ Wx, Off (.slice ol row.length cl) w5 Wx → Wx.cell? ⟨kw, m.toNat, none⟩ = some (.int .i64 z) := fun _ h => h.kept wc hn3
    have hixr := Q1v
    have hixs := Q8j
    obtain ⟨i0, hi0, hz0, hz1, hz2⟩ := info_parts Q4w
    have hgl5 := P5.out.box.lt
    have hel5 := BI5.out.lt
    refine Qae (R := Off (.slice ol row.length cl)) [22, 23, 24, 25] 2 (Turn.refl _) (Turn.ofExt (Ext.refl _).drew) (by kernel_rfl) (by kernel_rfl) ?_
    repeat (first | (refine Qbn ?_ ?_; (decide)) | (refine Q8r ?_ ?_ ?_; (decide); (first | rfl | (focus (go_simp; done))); apply Exists.intro; refine ⟨fun wc hE => ?_, ?_⟩; (go_simp; exact rfl); go_simp) | (refine Qbl ?_ ?_ ?_; (decide); (focus (go_simp; done)); go_simp))
    refine Qbm ?_
    clear k1 k2 kc kz
    have HX6 := Lib.hid ((Ext.refl w5).drew)
    have PC6 : w5.drew.cell? ⟨kp, m.toNat, none⟩ = some (.slice ol row.length cl) ∧ w5.drew.frozen? ⟨kp, m.toNat, none⟩ = false := Q07 HX6.out ⟨pc, pf⟩
    have hbB := P5.out.core.ext.size
    have h56 := HX6.out.size
    generalize w5.drew = w6 at *
    refine Q6d rfl ?_
    go_wp2
    refine ⟨Turn.ofExt (HX6.out.alloc _), ?_⟩
    refine Q6d rfl ?_
    refine Q2e _ rfl (.tmp 108) (.tmp 117) 52 rfl wB.heap.size 2 i0 _ 1 8 Try.underlying52 hi0 hz0 hz1 hz2 rfl (by decide) _ row.length (row.map (Value.int .i64)) rfl ?c0 (some ⟨w6.heap.size, 0, none⟩) 1 1 [.int .i64 z] rfl ?c1 ?c3 ?c4 ?c5 ?_
    case c0 => exact Q3t (Q1m Hown.out HX6.out)
    case c1 => exact Q3l (size := 1) (Blk.new w6 2 #[.int .i64 z]) rfl (by simp [Value.oneCell'])
    case c3 => unfold maxLen; omega
    case c4 => omega
    case c5 => simp; omega
    intro v7 w7 hown7 hgrow hat7
    obtain ⟨o7, c7, rfl⟩ := Q0m hown7
    have hgrow : (w6.alloc (.cells #[.int .i64 z] 2)).grownBy w7 (Value.slice ol row.length cl).ownBlock := hgrow
    have HOff : Hid (Off (.slice ol row.length cl) w5 w7) := Lib.hid ((Turn.ofExt (S := fun j => (Value.slice ol row.length cl).ownBlock = some j) (HX6.out.alloc (.cells #[.int .i64 z] 2))).trans (Turn.grown hgrow) (fun j _ e => e))
    have P6 := P5.out.extend (HX6.out.alloc (.cells #[.int .i64 z] 2))
    have hown7' : w7.ownsRow wB.heap.size 2 1 (.slice o7 (row.length + 1) c7) (row ++ [z]).length ((row ++ [z]).map (Value.int .i64)) := by simpa using hown7
    have hat7' : ∀ k, (Value.slice o7 (row.length + 1) c7).ownBlock = some k → (V4.vs.getD m.toNat undef).ownBlock = some k ∨ (w6.alloc (.cells #[.int .i64 z] 2)).heap.size ≤ k := fun k hk => by
     rw [Hvs.out]
     rcases hat7 with e | e
     ·left; rw [e] at hk; exact hk
     ·right; rw [e] at hk; exact Nat.le_of_eq (Option.some.inj hk)
    rw [← Hvs.out] at hgrow
    have hb7 := P6.box.grown hgrow (by rw [Hvs.out]; exact fun e => hn1 e.symm)
    have hcp : (({ S with seen := S.seen ++ [⟨2, m, 1⟩] } : Spc).goTo (S.pl.at_ + 1)).pl.past.length = Q0b p := Hm.out.pl.plen
    obtain ⟨C7, T7⟩ := P6.core.past (n := m.toNat) (by rw [hcp]; exact hmn) hgrow hown7' hat7' (kp := kp) (cap := cp) (by rw [hcp]; exact HvP.out)
    have bI7 := (BI5.out.ext (HX6.out.alloc (.cells #[.int .i64 z] 2))).grown hgrow (by rw [Hvs.out]; exact Q06 Hown.out BI5.out (by decide))
    have hkpe : e ≠ kp := fun h => Q06 P5.out.core.out BI5.out (by decide) (by rw [h, HvP.out]; rfl)
    have P8 := Lib.hid (RSt.mk (by exact hb7.far (p := ⟨kp, m.toNat, none⟩) (Ne.symm hkpg) (.slice o7 (row.length + 1) c7)) C7 P5.out.hg)
    have T8 := Lib.hid ((T5.out.ext (HX6.out.alloc (.cells #[.int .i64 z] 2))).trans T7)
    have BI8 := Lib.hid (bI7.far (p := ⟨kp, m.toNat, none⟩) hkpe (.slice o7 (row.length + 1) c7))
    have pc7 : w7.cell? ⟨kp, m.toNat, none⟩ = some (.slice ol row.length cl) ∧ w7.frozen? ⟨kp, m.toNat, none⟩ = false := by
     have hbk : w7.heap[kp]? = (w6.alloc (.cells #[.int .i64 z] 2)).heap[kp]? := hgrow.block kp (by simp; omega) (by rw [Hvs.out]; exact fun e => hn2 e.symm)
     refine ⟨?_, ?_⟩
     ·rw [World.cell?_of_block (a := ⟨kp, m.toNat, none⟩) hbk]
      exact ((Ext.refl w6).alloc _).kept PC6.1
     ·rw [World.frozen?_of_block (a := ⟨kp, m.toNat, none⟩) hbk]
      rw [((Ext.refl w6).alloc (.cells #[.int .i64 z] 2)).frozen (by simp only; omega)]
      exact PC6.2
    have hkp7 := Q0s pc7.1
    simp only at hkp7
    clear hown7 hgrow hat7 P6 hown7' hat7' hb7 C7 T7 bI7 hkpe PC6 hvs hown hvP
    go_wp2
    refine ⟨HOff.out, ?_⟩
    refine Q99 (Q0j rfl (Q0j rfl (Q24))) ?_
    go_upto_region 14 with fail
    generalize w7.setCell ⟨kp, m.toNat, none⟩ (.slice o7 (row.length + 1) c7) = w8 at *
    obtain ⟨kR', cR', Y', hvR', hbR', hkg'⟩ := P8.out.regRow Hl.out
    obtain ⟨ra, -⟩ := Q1s hbR' Hl.out Ha.out
    obtain ⟨kw3, cw3, hvW3, hkw3, wc3, wf3⟩ := P8.out.wordRow (N := Q0b p) (x := m.toNat) Hm.out.pl.wlen hmn
    replace ra : w8.cell? ⟨kR', a.toNat, none⟩ = some (.int .i64 (rg S.pl.regs a)) := ra
    have k0 : ∀ Wx, Ext w8 Wx → Wx.cell? ⟨g, 0, none⟩ = some (.slice (some ⟨kR', 0, none⟩) 10 cR') := fun _ h => h.kept (by rw [P8.out.box.cell, ← hvR']; rfl)
    have k1 : ∀ Wx, Ext w8 Wx → Wx.cell? ⟨g, 1, none⟩ = some (.slice (some ⟨kw3, 0, none⟩) (Q0b p) cw3) := fun _ h => h.kept (by rw [P8.out.box.cell, ← hvW3]; rfl)
    have ka : ∀ Wx, Ext w8 Wx → Wx.cell? ⟨kR', a.toNat, none⟩ = some (.int .i64 (rg S.pl.regs a)) := fun _ h => h.kept ra
    have q1 : ∀ Wx, Ext w8 Wx → Wx.cell? ⟨e, 1, none⟩ = some (.int .i64 a) := fun _ h => h.kept (by rw [BI8.out.cell]; rfl)
    have hgl8 := P8.out.box.lt
    have hel8 := BI8.out.lt
    have hkl8 := hbR'.lt
    refine Q0i 15 (by kernel_rfl) (by kernel_rfl) ?_
    simp only [List.take_succ_cons, List.take_zero, List.drop_succ_cons, List.drop_zero]
    repeat (first | (refine Q0e ?_ ?_ (fun wc hE => ?_) ?_; (decide); rfl; (focus (go_simp; done)); go_simp) | (refine Q0a ?_ ?_ ?_; (decide); (first | rfl | (focus (go_simp; done))); apply Exists.intro; refine ⟨fun wc hE => ?_, ?_⟩; (go_simp; exact rfl); go_simp) | (refine Q0f ?_ ?_ ?_; (decide); (first | rfl | (focus (go_simp; done))); apply Exists.intro; refine ⟨fun wc hE => ?_, ?_⟩; (go_simp; (first | fail)); go_simp) | (refine Q0c ?_ ?_ ?_; (decide); (focus (go_simp; done)); go_simp))
    refine Q0d ?_
    intro w9 hx9
    have rr := Q07 hx9 ⟨wc3, wf3⟩
    have P9 := P8.out.extend hx9
    obtain ⟨P10, T10⟩ := P9.word (x := m.toNat) hvW3 (rg S.pl.regs a)
    have P10 := Lib.hid P10
    have T10 := Lib.hid ((T8.out.ext hx9).trans T10)
    clear k0 k1 ka q1 ra wc3 wf3 hx9 P9 hbR' hvR' hvW3
    go_wp2
    refine bodyPost_end (results_none rfl _ _ _) rfl ?_
    rw [HTo.out]
    exact ⟨rfl, _, P10.out, T10.out⟩
   all_goals
    have HTo := Lib.hid (HTr.out.trans (Qab Hput.out (by rw [Hm.out.pl.wlen]; omega)))
    try (have hd : decide (m < 0) = true := by simpa using m0)
    try (have hd : decide (m < 0) = false := by simp; omega)
    try (have hd2 : decide ((Q0b p : Int) ≤ m) = true := by simpa using m1)
    go_wp2
    refine bodyPost_end (results_none rfl _ _ _) rfl ?_
    rw [HTo.out]
    exact ⟨rfl, _, P5.out, T5.out⟩
def Q1g (p : Q01) : List Int := (List.range p.regs.length).map fun k => (Q0k p k : Int)
theorem Q5l (p : Q01) : (Q1g p).length = p.regs.length := by simp [Q1g]
theorem Qbp (p : Q01) {c : Nat} (h : c < p.regs.length) : ((Q1g p).map (Value.int .i64))[c]? = some (.int .i64 (Q0k p c : Nat)) := by simp [Q1g, h]
theorem Qhg (k n cap : Nat) (W : World) (i : Int) (h0 : 0 ≤ i) (h1 : i < n) :
  (Instr.indexAt 27 (.slice (some ⟨k, 0, none⟩) n cap) (.int .i64 i)).run Try.prog W = .ok (.pointer (some ⟨k, i.toNat, none⟩)) W := by
 have hs : (Try.prog.info? 3).map (·.size) = some 1 := by kernel_rfl
 simp [Instr.indexAt, run_underlying Try.underlying27, asIntOf, h0, h1]
 have := Q36 k 0 i.toNat
 simpa using this
theorem Q2u {w : World} {B : Nat} {e : TypeId} {v : Value} {n : Nat} {xs : List Value} (h : w.ownsRow B e 1 v n xs) (hn : 0 < n) : ∃ k cap, v = .slice (some ⟨k, 0, none⟩) n cap ∧ B ≤ k ∧ ∀ j x, j < n → xs[j]? = some x → w.cell? ⟨k, j, none⟩ = some x ∧ w.frozen? ⟨k, j, none⟩ = false := by
 have h' := h
 rcases h.2 with ⟨-, h0⟩ | ⟨k, cap, cur, rfl, a1, a2, a3⟩
 ·omega
 ·exact ⟨k, cap, rfl, a1, fun j x hj hx => ⟨by rw [h'.cellAt j (by omega), hx], h'.frozenAt j⟩⟩
theorem MSt.below {w w' : World} {B g : Nat} {vR vC vM vB vS vW : Value} {bases : List Int} {M : Mach} (h : MSt w B g vR vC vM vB vS vW bases M) (ht : Turn (fun j => j = g ∨ vS.ownBlock = some j) w w') : Below B w w' :=
 ht.below h.size (by
  rintro j (rfl | e)
  ·exact h.hg
  ·exact Q1u h.sn j e)
theorem MOk.same {p : Q01} {M M' : Mach} (h : MOk p M) (h1 : M'.regs = M.regs) (h2 : M'.words = M.words) : MOk p M' := ⟨by rw [h1]; exact h.len, by rw [h1]; exact h.r64, by rw [h2]; exact h.wlen, by rw [h2]; exact h.w64⟩
theorem Qcz (ad : Addr) (n cap : Nat) (w : World) : (binOp .eql 52 (.slice (some ad) n cap) (.slice none 0 0)).run Try.prog w = .ok (.bool false) w := by
 first | (kernel_rfl; done) | (go_simp; done)
theorem Qhd : (Try.prog.info? 3).map (fun i => (i.zero, i.size, i.bytes)) = some (some (.int .i64 0), 1, 8) := by kernel_rfl
set_option maxRecDepth 100000 in
theorem Q4b {w : World} {ad : Addr} {n cap : Nat} {news : List Value} (hs : Src w 1 (some ad) n news) (hn : n ≤ 1000000) :
  Calls Try.prog 42 #[.slice (some ad) n cap] w fun e w' => ∃ v', e = .returned v' ∧ w'.ownsRow w.heap.size 2 1 v' n news ∧ Ext w w' := by
 obtain ⟨i0, hi0, hz0, hz1, hz2⟩ := info_parts Q4w
 have Hs := Lib.hid hs
 have hnil := Qcz ad n cap
 clear hs
 go_enter Try.func42, Try.ntmps42
 go_wp2_with (at_builtin; refine Q2e _ rfl _ _ 52 rfl w.heap.size 2 i0 _ 1 8 Try.underlying52 hi0 hz0 hz1 hz2 rfl (by decide) _ 0 [] rfl ?c0 (some ad) n cap news rfl ?c1 ?c3 ?c4 ?c5 ?_)
 case c0 =>
  have h := World.ownsRow_lit (base := w.heap.size) (e := 2) (size := 1) w #[] 0 (Nat.le_refl _) (by decide) rfl
  simpa [Act.eval] using h
 case c1 => exact Hs.out.ext ((Ext.refl _).alloc _)
 case c3 => unfold maxLen; omega
 case c4 => omega
 case c5 => simp
 intro v1 w1 hown hgrow hat
 have X : Ext w w1 := ((Ext.refl w).alloc _).grown hgrow (by
  intro k hk
  simp [Act.eval, Value.ownBlock] at hk
  omega)
 have Hown := Lib.hid hown
 have X := Lib.hid X
 clear hown hgrow hat
 go_wp2
 go_ret
 exact ⟨_, rfl, by simpa using Hown.out, X.out⟩
section
variable {w w' : World} {B g : Nat} {vR vC vM vB vS vW : Value} {bases : List Int} {M : Mach}
theorem MSt.bases_ (h : MSt w B g vR vC vM vB vS vW bases M) {vB' : Value} {bs : List Int} (hg : w.grownBy w' vB.ownBlock) (ho : w'.ownsRow B 3 1 vB' bs.length (bs.map (Value.int .i64))) :
  MSt (w'.setCell ⟨g, 19, none⟩ vB') B g vR vC vM vB' vS vW bs M := by
 have hb := h.box.grown hg h.gb
 have hne : some g ≠ vB'.ownBlock := Q06 ho hb (by decide)
 have hw := Q0y h.ws hg (fun k hk he => Q13 h.bs h.ws (by decide) k hk he)
 have hs := Q0y h.sn hg (fun k hk he => Q13 h.bs h.sn (by decide) k hk he)
 exact ⟨by rw [← Qgl h.len (u := vB')]; exact hb.set_ 19 vB', Q0o hs h.gs _, Q0o hw h.gw _, Q0o ho hne _, h.len, h.hg⟩
theorem MSt.words_ (h : MSt w B g vR vC vM vB vS vW bases M) {vW' : Value} {ws : List Int} (hg : w.grownBy w' vW.ownBlock) (ho : w'.ownsRow B 2 1 vW' ws.length (ws.map (Value.int .i64))) :
  MSt (w'.setCell ⟨g, 17, none⟩ vW') B g vR vC vM vB vS vW' bases { M with words := ws } := by
 have hb := h.box.grown hg h.gw
 have hne : some g ≠ vW'.ownBlock := Q06 ho hb (by decide)
 have hbs := Q0y h.bs hg (fun k hk he => Q13 h.ws h.bs (by decide) k hk he)
 have hs := Q0y h.sn hg (fun k hk he => Q13 h.ws h.sn (by decide) k hk he)
 exact ⟨by rw [← Qge h.len (u := vW')]; exact hb.set_ 17 vW', Q0o hs h.gs _, Q0o ho hne _, Q0o hbs h.gb _, h.len, h.hg⟩
end
def Qj4 (p : Q01) (m : List (List Int)) (vR vC : Value) (w : World) (e : Ending) (w' : World) : Prop :=
 ∃ g vB vW, e = .returned (.pointer (some ⟨g, 0, none⟩)) ∧ MSt w' w.heap.size g vR vC (.slice none 0 0) vB (.slice none 0 0) vW (Q1g p) (Q0n m.flatten) ∧ Ext w w'
def bsTo (p : Q01) (j : Nat) : List Int := (List.range j).map fun k => (Q0k p k : Int)
set_option maxRecDepth 100000 in
set_option maxHeartbeats 4000000 in
theorem Qiq (p : Q01) (m : List (List Int)) (vR vC vm : Value) (w : World) (hm : Q1w w vm m) (hf : Q2j p m = true) (hr : Q0h p.regs = true) :
  Calls Try.prog 18 #[.agg #[vR, vC], vm] w (Qj4 p m vR vC w) := by
 obtain ⟨hl1, hl2⟩ := Q74 hf
 have hlen := Q44 hr
 have htt := Q42 hr
 have Hft := Lib.hid (Qbe hf)
 obtain ⟨oa, cap, b, o, rfl, hc1, hc2, vs0, hrow, hin⟩ := hm
 have hix := index_mem' (cap := cap) hrow.at_
 have Hrow := Lib.hid hrow
 have Hin := Lib.hid hin
 have Hl2 := Lib.hid hl2
 have Hr := Lib.hid hr
 have Hl1 := Lib.hid hl1
 have hm6 : m.length ≤ 6 := by omega
 obtain ⟨i0, hi0, hz0, hz1, hz2⟩ := info_parts Q4w
 obtain ⟨j0, hj0, hy0, hy1, hy2⟩ := info_parts Qhd
 clear hrow hin hc1 hc2 hl2 hr hl1 hlen
 go_enter Try.func18, Try.ntmps18
 go_wp2_with fail
 obtain ⟨W, gp, hg, hW, hx, bP, bM⟩ := Q1y w #[vR, vC] #[vR, vC, .int .i64 0, .int .i64 0, .int .i64 0, .slice none 0 0, .slice none 0 0, .int .i64 0, .int .i64 0, .int .i64 0, .int .i64 0, .int .i64 0, .int .i64 0, .int .i64 0, .int .i64 0, .int .i64 0, .int .i64 0, .slice none 0 0, .int .i64 0, .slice none 0 0] 25 58
 rw [hW, hg]
 have X := Lib.hid hx
 have P0 : MSt W w.heap.size (gp + 1) vR vC (.slice none 0 0) (.slice none 0 0) (.slice none 0 0) (.slice none 0 0) (bsTo p 0) { Q0n [] with words := (m.take 0).flatten } :=
  ⟨bM, World.ownsRow_nil _ _ _ _, World.ownsRow_nil _ _ _ _, World.ownsRow_nil _ _ _ _, rfl, by omega⟩
 clear hW hg hx bP bM
 generalize gp + 1 = g at *
 go_loopw [13] (fun i wr => ∃ (j : Nat) (vB vW : Value), j ≤ m.length ∧ i = .int .i64 j ∧ MSt wr w.heap.size g vR vC (.slice none 0 0) vB (.slice none 0 0) vW (bsTo p j) { Q0n [] with words := (m.take j).flatten } ∧ Ext w wr) (fun i _ => m.length - (intOf i).toNat)
 case atStart => exact ⟨0, _, _, by omega, rfl, P0, X.out⟩
 case round =>
  obtain ⟨j, vB, vW, hj, rfl, P, hE⟩ := hrel
  have X := Lib.hid hE
  have PP := Lib.hid P
  have hgl := P.box.lt
  have hwl : ((m.take j).flatten).length = Q0k p j := Hft.out j (by rw [← Hl1.out]; omega)
  have hbl := Q8w p j
  clear hE P
  by_cases hlt : j < m.length
  ·have e0 := (Hrow.out.ext X.out).one j hlt
   have h1 := Hin.out j hlt
   have hlj := Hl2.out j (by rw [← Hl1.out]; omega)
   have hw6 : Q09 (p.regs.getD j default) ≤ 64 := Q4i _ (Q4p Hr.out _ (Q1f (by rw [← Hl1.out]; omega))).2
   have Hnext : Hid ((m.take (j + 1)).flatten = (m.take j).flatten ++ m.getD j default) := Lib.hid (by
    rw [List.take_succ_eq_append_getElem hlt, List.flatten_append]
    simp [hlt])
   have Hbs : Hid (bsTo p (j + 1) = bsTo p j ++ [(Q0k p j : Int)]) := Lib.hid (by simp [bsTo, List.range_succ])
   have hbsl : (bsTo p j).length = j := by simp [bsTo]
   generalize m.getD j default = l at *
   generalize vs0 j = vl at *
   obtain ⟨-, ol, lcap, lb, lo, rfl, hl3, hl4, hlr⟩ := h1
   have Hlr := Lib.hid hlr
   rw [hlj] at e0
   generalize Q09 (p.regs.getD j default) = L at *
   obtain ⟨-, -, -, -, -, -, -, g17, -, g19⟩ := PP.out.cells
   obtain ⟨ob, obc, rfl⟩ := Q0m PP.out.bs
   obtain ⟨ow, owc, rfl⟩ := Q0m PP.out.ws
   have Hwl := Lib.hid hwl
   rw [hbsl] at g19
   simp only [hwl] at g17
   clear hlr hl3 hl4
   go_upto_region 5 with fail
   have k17 : ∀ W, Ext wr W → W.cell? ⟨g, 17, none⟩ = some (.slice ow (Q0k p j) owc) := fun _ h => h.kept g17.1
   have k19 : ∀ W, Ext wr W → W.cell? ⟨g, 19, none⟩ = some (.slice ob j obc) := fun _ h => h.kept g19.1
   refine Q27 [11, 12, 13, 14, 15] 1 (by kernel_rfl) (by kernel_rfl) ?_
   repeat (first | (refine Q2r ?_ ?_; (decide)) | (refine Q2k ?_ ?_ ?_; (decide); (first | rfl | (focus (go_simp; done))); apply Exists.intro; refine ⟨fun wc hE => ?_, ?_⟩; (go_simp; exact rfl); go_simp) | (refine Q2p ?_ ?_ ?_; (decide); (focus (go_simp; done)); go_simp))
   refine Q2q ?_
   intro w2 hx
   have X2 := Lib.hid hx
   clear k17 k19
   refine Q2m rfl ?_
   go_wp2
   have PB := PP.out.ext (X2.out.alloc (.cells #[.int .i64 (Q0k p j : Int)] 3))
   have X3 := Lib.hid (X.out.trans (X2.out.alloc (.cells #[.int .i64 (Q0k p j : Int)] 3)))
   refine ⟨X2.out.alloc _, ?_⟩
   refine Q20 (Q0j rfl (Q0j rfl (Q0j rfl (Q0j rfl (Q24))))) ?_
   have hbo := PB.bs
   rw [hbsl] at hbo
   refine Q2e _ rfl _ _ 27 rfl w.heap.size 3 j0 _ 1 8 Try.underlying27 hj0 hy0 hy1 hy2 rfl (by decide) _ _ _ rfl hbo (some ⟨w2.heap.size, 0, none⟩) 1 1 [.int .i64 (Q0k p j : Int)] rfl ?c1 ?c3 ?c4 ?c5 ?_
   case c1 => exact Q3l (size := 1) (Blk.new w2 3 #[.int .i64 (Q0k p j : Int)]) rfl (by simp [Value.oneCell'])
   case c3 => unfold maxLen; omega
   case c4 => omega
   case c5 => exact X3.out.size
   intro v1 w3 hown hgrow hat
   clear hat
   obtain ⟨o3, c3, rfl⟩ := Q0m hown
   have hgrow : (w2.alloc (.cells #[.int .i64 (Q0k p j : Int)] 3)).grownBy w3 (Value.slice ob (bsTo p j).length obc).ownBlock := by
    rw [hbsl]; exact hgrow
   have hb3 := PB.box.grown hgrow PB.gb
   have p19 : w3.cell? ⟨g, 19, none⟩ = some (.slice ob j obc) ∧ w3.frozen? ⟨g, 19, none⟩ = false := ⟨by rw [hb3.cell]; simp [Q0p, Q0n, hbsl], hb3.frozen 19⟩
   have p17 : w3.cell? ⟨g, 17, none⟩ = some (.slice ow (Q0k p j) owc) ∧ w3.frozen? ⟨g, 17, none⟩ = false := ⟨by rw [hb3.cell]; simp [Q0p, Q0n, Hwl.out], hb3.frozen 17⟩
   have P3 := PB.bases_ (bs := bsTo p j ++ [(Q0k p j : Int)]) (vB' := .slice o3 (j + 1) c3) hgrow (by simpa [hbsl] using hown)
   have X3 := Lib.hid (((X3.out.grown hgrow (Q1u PB.bs))).setCell (p := ⟨g, 19, none⟩) PB.hg (.slice o3 (j + 1) c3))
   have hwo : (w3.setCell ⟨g, 19, none⟩ (.slice o3 (j + 1) c3)).ownsRow w.heap.size 2 1 (.slice ow (Q0k p j) owc) (Q0k p j) (((m.take j).flatten).map (Value.int .i64)) := by
    have := P3.ws
    simp only [Hwl.out] at this
    exact this
   have P3 := Lib.hid P3
   have Hsrc : Hid (Src (w3.setCell ⟨g, 19, none⟩ (.slice o3 (j + 1) c3)) 1 ol L (l.map (Value.int .i64))) := Lib.hid (by
    have := Q6h .i64 (Hlr.out.ext X3.out)
    rw [hlj] at this
    exact this)
   clear g17 g19 hb3 hown hgrow PB hbo
   have hg3 := P3.out.box.lt
   go_wp2_with (at_builtin; refine Q2e _ rfl _ _ 52 rfl w.heap.size 2 i0 _ 1 8 Try.underlying52 hi0 hz0 hz1 hz2 rfl (by decide) _ _ _ rfl hwo ol L lcap (l.map (Value.int .i64)) rfl ?d1 ?d3 ?d4 ?d5 ?_)
   case d1 => exact Hsrc.out
   case d3 => unfold maxLen; omega
   case d4 => omega
   case d5 => exact X3.out.size
   intro v2 w4 hown2 hgrow2 hat2
   clear hat2
   obtain ⟨o4, c4, rfl⟩ := Q0m hown2
   have hgr : (w3.setCell ⟨g, 19, none⟩ (.slice o3 (j + 1) c3)).grownBy w4 (Value.slice ow ({ Q0n [] with words := (m.take j).flatten } : Mach).words.length owc).ownBlock := by
    simp only [Hwl.out]; exact hgrow2
   have hb4 := P3.out.box.grown hgr P3.out.gw
   have q17 : w4.cell? ⟨g, 17, none⟩ = some (.slice ow (Q0k p j) owc) ∧ w4.frozen? ⟨g, 17, none⟩ = false := ⟨by rw [hb4.cell]; simp [Q0p, Q0n, Hwl.out], hb4.frozen 17⟩
   have P4 := Lib.hid (P3.out.words_ (ws := (m.take j).flatten ++ l) (vW' := .slice o4 (Q0k p j + L) c4) hgr (by simpa [Hwl.out, hlj] using hown2))
   have X4 := Lib.hid ((X3.out.grown hgrow2 (Q1u hwo)).setCell (p := ⟨g, 17, none⟩) P3.out.hg (.slice o4 (Q0k p j + L) c4))
   clear hb4 hgr hown2 hgrow2 hwo p17 p19
   go_wp2
   go_roundw
   case rel => exact ⟨j + 1, _, _, by omega, by go_num, by rw [Hbs.out, Hnext.out]; exact P4.out, X4.out⟩
   case measure => first | (simp [intOf]; done) | (simp [intOf]; omega)
  ·have hje : j = m.length := by omega
   subst hje
   have hlt2 : decide ((m.length : Int) < (m.length : Int)) = false := by simp
   have HB : Hid (bsTo p m.length = Q1g p) := Lib.hid (by rw [Hl1.out]; rfl)
   have HF : Hid ((m.take m.length).flatten = m.flatten) := Lib.hid (by rw [List.take_length])
   go_wp2
   go_ret
   refine ⟨g, vB, vW, rfl, ?_, X.out⟩
   have := PP.out
   rw [HB.out, HF.out] at this
   exact this
end Go.Proofs.Ytalpnmjaafcpoaa
