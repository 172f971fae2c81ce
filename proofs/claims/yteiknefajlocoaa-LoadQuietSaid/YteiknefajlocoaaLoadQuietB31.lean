/- Laid together from: Play4, Play5. -/
import Derived.Test.YteiknefajlocoaaLoadQuietB30

namespace Go.Proofs.Yteiknefajlocoaa
open Go.ChangeShapes Go.WideShapes Go.ChangeAt Go.RowKit
set_option linter.unusedVariables false
set_option linter.unusedSimpArgs false
section
variable {wB w : World} {g : Nat} {vG vC : Value} {V : RV} {S : Spc}
def Off (v : Value) (W w : World) : Prop := Turn (fun j => v.ownBlock = some j) W w
theorem Off.kept {v x : Value} {W w : World} {b o : Nat} (h : Off v W w) (hc : W.cell? ⟨b, o, none⟩ = some x) (hn : v.ownBlock ≠ some b) : w.cell? ⟨b, o, none⟩ = some x := by
 rw [World.cell?_of_block (w := W) (w' := w) (a := ⟨b, o, none⟩) (Turn.block h b (Q0a hc) hn)]
 exact hc
def Q5t (i : LIns) (S : Spc) (m : Int) : Spc :=
 let s1 := { S with seen := S.seen ++ [⟨2, m, putN i⟩] }
 if 0 ≤ m ∧ m < S.pl.words.length then
  if Q10 i then { s1 with pl := { s1.pl with at_ := s1.pl.at_ + 1, past := s1.pl.past.set m.toNat (s1.pl.past.getD m.toNat [] ++ [s1.pl.words.getD m.toNat 0]), words := s1.pl.words.set m.toNat (rg s1.pl.regs i.a) } }
  else Q4a i m.toNat s1
 else
  let s2 := s1.goTo (s1.pl.at_ + 1)
  if Q10 i then s2 else s2.put_ i.a 0
theorem Qi9 {p : Q01} {i : LIns} {S : Spc} (h : (!Q2f p i (Q1g S.pl.regs i) && !S.ahead) = false) : Q2v p i S = Q5t i S (wrap64 (Q1k p i.c.toNat + Q1g S.pl.regs i)) := by
 unfold Q2v
 simp only
 rw [if_neg (by rw [h]; simp)]
 rfl
theorem Qbj {i : LIns} (h : Q10 i = false) : putN i = 0 := by unfold putN; rw [h]; rfl
theorem Qbk {i : LIns} (h : Q10 i = true) : putN i = 1 := by unfold putN; rw [h]; rfl
theorem Ql2 {i : LIns} {S : Spc} {m : Int} (h : Q10 i = false) (hm : ¬ (0 ≤ m ∧ m < S.pl.words.length)) : Q5t i S m = (({ S with seen := S.seen ++ [⟨2, m, 0⟩] } : Spc).goTo (S.pl.at_ + 1)).put_ i.a 0 := by
 unfold Q5t
 simp only
 rw [if_neg hm, if_neg (by rw [h]; simp), Qbj h]
theorem Ql3 {i : LIns} {S : Spc} {m : Int} (h : Q10 i = true) (hm : ¬ (0 ≤ m ∧ m < S.pl.words.length)) : Q5t i S m = ({ S with seen := S.seen ++ [⟨2, m, 1⟩] } : Spc).goTo (S.pl.at_ + 1) := by
 unfold Q5t
 simp only
 rw [if_neg hm, if_pos h, Qbk h]
theorem Ql0 {i : LIns} {S : Spc} {m : Int} (h : Q10 i = false) (hm : 0 ≤ m ∧ m < S.pl.words.length) : Q5t i S m = Q4a i m.toNat { S with seen := S.seen ++ [⟨2, m, 0⟩] } := by
 unfold Q5t
 simp only
 rw [if_pos hm, if_neg (by rw [h]; simp), Qbj h]
theorem Ql1 {i : LIns} {S : Spc} {m : Int} (h : Q10 i = true) (hm : 0 ≤ m ∧ m < S.pl.words.length) : Q5t i S m = { S with seen := S.seen ++ [⟨2, m, 1⟩], pl := { S.pl with at_ := S.pl.at_ + 1, past := S.pl.past.set m.toNat (S.pl.past.getD m.toNat [] ++ [S.pl.words.getD m.toNat 0]), words := S.pl.words.set m.toNat (rg S.pl.regs i.a) } } := by
 unfold Q5t
 simp only
 rw [if_pos hm, if_pos h, Qbk h]
theorem Qiv {i : LIns} {n : Nat} {s : Spc} (h : ¬ (0 < s.choice ∧ s.choice ≤ (s.pl.past.getD n []).length)) : Q4a i n s = ((s.goTo (s.pl.at_ + 1)).chosen).put_ i.a (s.pl.words.getD n 0) := by
 unfold Q4a
 simp only
 rw [if_neg h]
theorem Qix {i : LIns} {n : Nat} {s : Spc} (h : 0 < s.choice ∧ s.choice ≤ (s.pl.past.getD n []).length) : Q4a i n s = (((s.goTo (s.pl.at_ + 1)).chosen).put_ i.a (s.pl.words.getD n 0)).leave.put_ i.a ((s.pl.past.getD n []).getD ((s.pl.past.getD n []).length - s.choice.toNat) 0) := by
 unfold Q4a
 simp only
 rw [if_pos h]
theorem Qdd {p : Q01} {i : LIns} {S : Spc} (h : Q2f p i (Q1g S.pl.regs i) = false) (ha : S.ahead = false) : Q2v p i S = { S with fin := 2 } := by
 unfold Q2v
 simp only
 rw [if_pos (by rw [h, ha]; rfl)]
theorem RSt.regRow (h : RSt wB w g vG vC V S) (hl : S.pl.regs.length = 10) : ∃ k c Y, V.vR = .slice (some ⟨k, 0, none⟩) 10 c ∧ Blk w k 2 (regW Y S.pl.regs) ∧ k ≠ g := by
 have hr := h.core.fam.at_ (Q6s V S)
 obtain ⟨k, c, hv, -, -⟩ := own_at' hr (by omega)
 rw [hv] at hr
 obtain ⟨Y, hY⟩ := Qlf hr
 rw [hl] at hv
 exact ⟨k, c, Y, hv, hY, Blk.ne_ hY h.box (by decide)⟩
theorem RSt.wordRow (h : RSt wB w g vG vC V S) {N x : Nat} (hl : S.pl.words.length = N) (hx : x < N) : ∃ k c, V.vW = .slice (some ⟨k, 0, none⟩) N c ∧ k < w.heap.size ∧ w.cell? ⟨k, x, none⟩ = some (.int .i64 (S.pl.words.getD x 0)) ∧ w.frozen? ⟨k, x, none⟩ = false := by
 have hr := h.core.fam.at_ (Q5w V S)
 obtain ⟨k, c, hv, -, hc⟩ := own_at' hr (by omega)
 rw [hl] at hv
 obtain ⟨h1, h2⟩ := hc x (.int .i64 (S.pl.words.getD x 0)) (by omega) (by simp [show x < S.pl.words.length by omega])
 have h3 := Q0a h1
 exact ⟨k, c, hv, h3, h1, h2⟩
theorem RSt.wordLen (h : RSt wB w g vG vC V S) {N : Nat} (hl : S.pl.words.length = N) : ∃ o c, V.vW = .slice o N c := by
 have := Q13 (h.core.fam.at_ (Q5w V S))
 rw [hl] at this
 exact this
theorem RSt.pastRow (h : RSt wB w g vG vC V S) {N x : Nat} (hl : S.pl.past.length = N) (hx : x < N) : ∃ kp cp ol cl, V.vP = .slice (some ⟨kp, 0, none⟩) N cp ∧ kp < w.heap.size ∧ kp ≠ g ∧ w.cell? ⟨kp, x, none⟩ = some (.slice ol (S.pl.past.getD x []).length cl) ∧ w.frozen? ⟨kp, x, none⟩ = false ∧
  V.vs.getD x undef = .slice ol (S.pl.past.getD x []).length cl ∧ w.ownsRow wB.heap.size 2 1 (.slice ol (S.pl.past.getD x []).length cl) (S.pl.past.getD x []).length ((S.pl.past.getD x []).map (Value.int .i64)) := by
 have ho := h.core.out
 have hvl : V.vs.length = N := by have := ho.1; omega
 obtain ⟨kp, cp, hv, -, hc⟩ := own_at' ho (by omega)
 have hi := Qb4 V S (n := x) (by omega) (by omega)
 have hr := h.core.fam.at_ hi
 obtain ⟨ol, cl, he⟩ := Q13 hr
 obtain ⟨h1, h2⟩ := hc x (V.vs.getD x undef) (by omega) (by simp [show x < V.vs.length by omega])
 have h3 := Q0a h1
 have hne := Q09 ho h.box (by decide)
 rw [hv] at hne
 rw [hl] at hv
 rw [he] at h1 hr
 exact ⟨kp, cp, ol, cl, hv, h3, fun e => hne (by rw [← e]; rfl), h1, h2, he, hr⟩
end
set_option maxRecDepth 100000 in
set_option maxHeartbeats 8000000 in
theorem Qkg {wB w : World} {g : Nat} {vG vC : Value} {V : RV} {S : Spc} {p : Q01} {N : Nat} (i : LIns) (hw : i.op = 3 ∨ i.op = 4 ∨ i.op = 5 ∨ i.op = 6) (hi : Q00 p 10 i = true) (hfi : i.fits) (hr : Q02 p.regs = true) (hp : Q07 wB (.agg #[vG, vC]) p) (hm : SMid p N S) (hN : N ≤ 1000000)
  (hat : S.pl.at_ < p.code.length) (hcl : p.code.length ≤ 1000000) (hsn : S.seen.length ≤ 900000) (h : RSt wB w g vG vC V S) :
  Calls Try.prog 114 #[.pointer (some ⟨g, 0, none⟩), insV i, .int .i64 (putN i)] w (Q85 wB w g vG vC (Q2v p i S) (.tuple #[])) := by
 obtain ⟨ha, hb, hc0, hc1⟩ := Qi6 hi hw
 have hbe := Qah p i.c.toNat hc1
 have htt := Q8a hr
 have hlen := Q2x hr
 have hlog := Q55 hr _ (Q20 (l := p.regs) hc1)
 have hw6 : Q0b (p.regs.getD i.c.toNat default) ≤ 64 := Q5k _ hlog.2
 have HP := Lib.hid hp
 have Hm := Lib.hid hm
 have H := Lib.hid h
 obtain ⟨v1, v2, hv, ⟨hrl, oR, cR, bR, fR, rfl, hc1', hc2', hrow⟩, ⟨-, oC, cC, bC, fC, rfl, -⟩⟩ := hp
 simp only [Value.agg.injEq, Array.mk.injEq, List.cons.injEq, and_true] at hv
 obtain ⟨rfl, rfl⟩ := hv
 have hixR := Q2k (cap := cR) hrow.at_
 have Hrow := Lib.hid hrow
 have Hr := Lib.hid hr
 have Hfi := Lib.hid hfi
 have Ha := Lib.hid ha
 have Hb := Lib.hid hb
 have Hc1 := Lib.hid hc1
 have Hsn := Lib.hid hsn
 have Hat := Lib.hid hat
 have Hw := Lib.hid hw
 have Hl := Lib.hid hm.pl.len
 obtain ⟨kR, cr, Y, hvR, hbR, hkg⟩ := h.regRow hm.pl.len
 have HvR := Lib.hid hvR
 have HbR := Lib.hid hbR
 have hgl := h.box.lt
 have g0 : w.cell? ⟨g, 0, none⟩ = some (.slice (some ⟨kR, 0, none⟩) 10 cr) := by rw [h.box.cell, ← hvR]; rfl
 have g4 : w.cell? ⟨g, 4, none⟩ = some (.slice oR p.regs.length cR) := by rw [h.box.cell]; rfl
 have Hput : Hid (putN i = if Q10 i then 1 else 0) := Lib.hid rfl
 have HIn : Hid (∀ x, Q2f p i x = (decide (0 ≤ x) && decide (x < (Q0b (p.regs.getD i.c.toNat default) : Nat)))) := Lib.hid fun x => rfl
 have HWS : Hid (Q2v p i S = Q2v p i S) := Lib.hid rfl
 generalize hT : Q2v p i S = T at *
 have HT := Lib.hid hT
 clear hT HWS
 obtain ⟨op, a, b, c, n⟩ := i
 simp only at ha hb hc0 hc1 hbe hw6 hlog
 obtain ⟨a0, a1⟩ := Q05.1 ha
 have hcl2 : c < (p.regs.length : Int) := by omega
 have hlg := hlog
 obtain ⟨e0r, e1r⟩ := (hrow.ext h.core.ext).reg c.toNat hc1
 unfold insV
 simp only
 clear hi hr hrow hc1' hc2' hfi hw hm h hvR hbR hsn hlog
 go_enter Try.func114, Try.ntmps114
 go_upto_region 1 with fail
 obtain ⟨w0, e, he, hW, hs0, hx0, c0, c1, c2, c3, c4⟩ := new5 w 70 (.int .i64 op) (.int .i64 a) (.int .i64 b) (.int .i64 c) (.int .i64 n)
 have bI : Blk w0 e 70 #[.int .i64 op, .int .i64 a, .int .i64 b, .int .i64 c, .int .i64 n] := by rw [← hW, ← he]; exact Blk.new _ _ _
 rw [hW, he]
 have X := Lib.hid hx0
 have hge : g ≠ e := by omega
 have hew : w.heap.size = e := he
 have k0 : ∀ Wx, Ext w0 Wx → Wx.cell? ⟨g, 0, none⟩ = some (.slice (some ⟨kR, 0, none⟩) 10 cr) := fun _ h => h.kept (X.out.kept g0)
 have q0 : ∀ Wx, Ext w0 Wx → Wx.cell? ⟨e, 0, none⟩ = some (.int .i64 op) := fun _ h => h.kept c0
 have q1 : ∀ Wx, Ext w0 Wx → Wx.cell? ⟨e, 1, none⟩ = some (.int .i64 a) := fun _ h => h.kept c1
 have q2 : ∀ Wx, Ext w0 Wx → Wx.cell? ⟨e, 2, none⟩ = some (.int .i64 b) := fun _ h => h.kept c2
 have q3 : ∀ Wx, Ext w0 Wx → Wx.cell? ⟨e, 3, none⟩ = some (.int .i64 c) := fun _ h => h.kept c3
 have q4 : ∀ Wx, Ext w0 Wx → Wx.cell? ⟨e, 4, none⟩ = some (.int .i64 n) := fun _ h => h.kept c4
 have CI : ∀ Wx, Ext w0 Wx → Hid (Calls Try.prog 65 #[.slice (some ⟨kR, 0, none⟩) 10 cr, .agg #[.int .i64 op, .int .i64 a, .int .i64 b, .int .i64 c, .int .i64 n]] Wx fun e w' => e = .returned (.int .i64 (Q1g S.pl.regs ⟨op, a, b, c, n⟩)) ∧ Ext Wx w') := fun Wx hE => Lib.hid (Qmb kR Y cr S.pl.regs _ ⟨op, a, b, c, n⟩ Hl.out Hb.out Wx (HbR.out.ext (X.out.trans hE)))
 clear hW hs0 hx0 g0 c0 c1 c2 c3 c4
 generalize hx : Q1g S.pl.regs ⟨op, a, b, c, n⟩ = x at *
 refine Q0z 8 (by kernel_rfl) (by kernel_rfl) ?_
 simp only [List.take_succ_cons, List.take_zero, List.drop_succ_cons, List.drop_zero]
 repeat (first | (refine Q0r ?_ ?_ (fun wc hE => ?_) ?_; (decide); rfl; (focus (go_simp; done)); go_simp) | (refine Q0l ?_ ?_ ?_; (decide); (first | rfl | (focus (go_simp; done))); apply Exists.intro; refine ⟨fun wc hE => ?_, ?_⟩; (go_simp; exact rfl); go_simp) | (refine Q0s ?_ ?_ ?_; (decide); (first | rfl | (focus (go_simp; done))); apply Exists.intro; refine ⟨fun wc hE => ?_, ?_⟩; (go_simp; (first | (with_reducible exact Q1j ((CI _ hE).out)))); go_simp) | (refine Q0p ?_ ?_ ?_; (decide); (focus (go_simp; done)); go_simp))
 refine Q0q ?_
 intro w1 hx1
 have X := Lib.hid (X.out.trans hx1)
 have bI := bI.ext hx1
 clear k0 q0 q1 q2 q3 q4 CI hx1
 go_upto_region 2 with fail
 have HInx := Lib.hid (HIn.out x)
 simp only at HInx
 generalize hrr : p.regs.getD c.toNat default = rr at *
 have Hrr := Lib.hid hrr
 have CW : ∀ Wx, Ext w1 Wx → Hid (Calls Try.prog 61 #[.agg #[.int .i64 rr.log, .bool rr.secret]] Wx fun e w' => e = .returned (.int .i64 (Q0b rr : Nat)) ∧ Ext Wx w') := fun Wx _ => Lib.hid (Q7k rr hlg.1 hlg.2 Wx)
 have k4 : ∀ Wx, Ext w1 Wx → Wx.cell? ⟨g, 4, none⟩ = some (.slice oR p.regs.length cR) := fun _ h => h.kept (X.out.kept g4)
 have q3 : ∀ Wx, Ext w1 Wx → Wx.cell? ⟨e, 3, none⟩ = some (.int .i64 c) := fun _ h => h.kept (by rw [bI.cell]; rfl)
 have r0 : ∀ Wx, Ext w1 Wx → Wx.cell? ⟨bR, fR + c.toNat * 2, none⟩ = some (.int .i64 rr.log) := fun _ h => h.kept (X.out.kept e0r)
 have r1 : ∀ Wx, Ext w1 Wx → Wx.cell? ⟨bR, fR + c.toNat * 2 + 1, none⟩ = some (.bool rr.secret) := fun _ h => h.kept (X.out.kept e1r)
 clear hrr
 refine Q0z 11 (by kernel_rfl) (by kernel_rfl) ?_
 simp only [List.take_succ_cons, List.take_zero, List.drop_succ_cons, List.drop_zero]
 repeat (first | (refine Q0r ?_ ?_ (fun wc hE => ?_) ?_; (decide); rfl; (focus (go_simp; done)); go_simp) | (refine Q0l ?_ ?_ ?_; (decide); (first | rfl | (focus (go_simp; done))); apply Exists.intro; refine ⟨fun wc hE => ?_, ?_⟩; (go_simp; exact rfl); go_simp) | (refine Q0s ?_ ?_ ?_; (decide); (first | rfl | (focus (go_simp; done))); apply Exists.intro; refine ⟨fun wc hE => ?_, ?_⟩; (go_simp; (first | (with_reducible exact Q1j ((CW _ hE).out)))); go_simp) | (refine Q0p ?_ ?_ ?_; (decide); (focus (go_simp; done)); go_simp))
 refine Q0q ?_
 intro w2 hx2
 have X := Lib.hid (X.out.trans hx2)
 have bI := bI.ext hx2
 clear k4 q3 r0 r1 CW hx2 e0r e1r
 have P2 := Lib.hid (H.out.extend X.out)
 have hgl2 := P2.out.box.lt
 have g12 : w2.cell? ⟨g, 12, none⟩ = some (.bool S.ahead) := by rw [P2.out.box.cell]; rfl
 have hq : (S.ahead = false ∧ x < 0) ∨ (S.ahead = false ∧ 0 ≤ x ∧ (Q0b rr : Int) ≤ x) ∨ (S.ahead = false ∧ 0 ≤ x ∧ x < (Q0b rr : Int)) ∨ S.ahead = true := by
  cases S.ahead
  ·by_cases h0 : x < 0
   ·exact .inl ⟨rfl, h0⟩
   ·by_cases h1 : (Q0b rr : Int) ≤ x
    ·exact .inr (.inl ⟨rfl, by omega, h1⟩)
    ·exact .inr (.inr (.inl ⟨rfl, by omega, by omega⟩))
  ·exact .inr (.inr (.inr rfl))
 have Hx : Hid (Q1g S.pl.regs ⟨op, a, b, c, n⟩ = x) := Lib.hid hx
 clear hx
 rcases hq with ⟨ha, h0⟩ | ⟨ha, h0, h1⟩ | hq
 ·have hin : Q2f p ⟨op, a, b, c, n⟩ x = false := by rw [HInx.out]; simp; omega
  have HTf := Lib.hid (HT.out.symm.trans (Qdd (by rw [Hx.out]; exact hin) ha))
  rw [ha] at g12
  have g6 : w2.cell? ⟨g, 6, none⟩ = some (.int .i64 S.fin) ∧ w2.frozen? ⟨g, 6, none⟩ = false := ⟨by rw [P2.out.box.cell]; rfl, P2.out.box.frozen _⟩
  have hd : decide (x < 0) = true := by simpa using h0
  clear ha hin
  go_wp2
  refine bodyPost_end (results_none rfl _ _ _) rfl ?_
  rw [HTf.out]
  exact ⟨rfl, _, P2.out.fin_ 2, (Q0u.ofExt X.out).trans (P2.out.stays 6 _)⟩
 ·have hin : Q2f p ⟨op, a, b, c, n⟩ x = false := by rw [HInx.out]; simp; omega
  have HTf := Lib.hid (HT.out.symm.trans (Qdd (by rw [Hx.out]; exact hin) ha))
  rw [ha] at g12
  have g6 : w2.cell? ⟨g, 6, none⟩ = some (.int .i64 S.fin) ∧ w2.frozen? ⟨g, 6, none⟩ = false := ⟨by rw [P2.out.box.cell]; rfl, P2.out.box.frozen _⟩
  have hd : decide (x < 0) = false := by simp; omega
  have hd2 : decide ((Q0b rr : Int) ≤ x) = true := by simpa using h1
  clear ha hin
  go_wp2
  refine bodyPost_end (results_none rfl _ _ _) rfl ?_
  rw [HTf.out]
  exact ⟨rfl, _, P2.out.fin_ 2, (Q0u.ofExt X.out).trans (P2.out.stays 6 _)⟩
 have hnf : (!Q2f p ⟨op, a, b, c, n⟩ x && !S.ahead) = false := by
  rcases hq with ⟨ha, h0, h1⟩ | ha
  ·have : Q2f p ⟨op, a, b, c, n⟩ x = true := by rw [HInx.out]; simp; omega
   rw [this]; rfl
  ·rw [ha]; simp
 have HTr := Lib.hid (HT.out.symm.trans (Qi9 (by rw [Hx.out]; exact hnf)))
 have CBa : ∀ Wx, Ext w2 Wx → Hid (Calls Try.prog 66 #[.agg #[.slice oR p.regs.length cR, .slice oC p.code.length cC], .int .i64 c] Wx fun e w' => e = .returned (.int .i64 (Q1k p c.toNat : Nat)) ∧ Ext Wx w') := fun Wx hE => Lib.hid (Qer p c _ Wx (HP.out.ext (P2.out.core.ext.trans hE)) Hr.out hc0 Hc1.out)
 have k4 : ∀ Wx, Ext w2 Wx → Wx.cell? ⟨g, 4, none⟩ = some (.slice oR p.regs.length cR) := fun _ h => h.kept (by rw [P2.out.box.cell]; rfl)
 have k5 : ∀ Wx, Ext w2 Wx → Wx.cell? ⟨g, 5, none⟩ = some (.slice oC p.code.length cC) := fun _ h => h.kept (by rw [P2.out.box.cell]; rfl)
 have q3 : ∀ Wx, Ext w2 Wx → Wx.cell? ⟨e, 3, none⟩ = some (.int .i64 c) := fun _ h => h.kept (by rw [bI.cell]; rfl)
 rw [Hx.out] at HTr
 simp only at HTr
 generalize hbo : Q1k p c.toNat = bo at *
 generalize hpp : putN ⟨op, a, b, c, n⟩ = pn at *
 have Hpp := Lib.hid hpp
 clear hnf hbo hbe hpp HInx HIn Hput HT
 rcases hq with ⟨ha, h0, h1⟩ | ha
 all_goals
  rw [ha] at g12
  clear ha
  try (have hd : decide (x < 0) = false := by simp; omega)
  try (have hd2 : decide ((Q0b rr : Int) ≤ x) = false := by simp; omega)
  go_upto_region 5 with fail
  refine Q0z 8 (by kernel_rfl) (by kernel_rfl) ?_
  simp only [List.take_succ_cons, List.take_zero, List.drop_succ_cons, List.drop_zero]
  repeat (first | (refine Q0r ?_ ?_ (fun wc hE => ?_) ?_; (decide); rfl; (focus (go_simp; done)); go_simp) | (refine Q0l ?_ ?_ ?_; (decide); (first | rfl | (focus (go_simp; done))); apply Exists.intro; refine ⟨fun wc hE => ?_, ?_⟩; (go_simp; exact rfl); go_simp) | (refine Q0s ?_ ?_ ?_; (decide); (first | rfl | (focus (go_simp; done))); apply Exists.intro; refine ⟨fun wc hE => ?_, ?_⟩; (go_simp; (first | (with_reducible exact Q1j ((CBa _ hE).out)))); go_simp) | (refine Q0p ?_ ?_ ?_; (decide); (focus (go_simp; done)); go_simp))
  refine Q0q ?_
  intro w3 hx3
  try clear hd
  try clear hd2
  have X3 := Lib.hid (X.out.trans hx3)
  have P3 := Lib.hid (P2.out.extend hx3)
  have bI3 := bI.ext hx3
  clear k4 k5 q3 CBa hx3
  go_wp2_with fail
  generalize wrap64 ((bo : Int) + x) = m at *
  have C := Qb2 P3.out 2 m pn (Nat.le_trans Hsn.out (by omega))
  (with_reducible refine C.mono ?_)
  clear C
  rintro er w4 ⟨rfl, V4, P4, T4⟩
  have bI4 := T4.blk bI3 (by decide) (by decide) (by decide) (by decide)
  have T4 := Lib.hid ((Q0u.ofExt X3.out).trans T4)
  have g3 : w4.cell? ⟨g, 3, none⟩ = some (.int .i64 (S.pl.at_ : Int)) ∧ w4.frozen? ⟨g, 3, none⟩ = false := ⟨by rw [P4.box.cell]; rfl, P4.box.frozen _⟩
  have hgl4 := P4.box.lt
  have hel4 := bI4.lt
  have P5 := P4.at__ (S.pl.at_ + 1)
  have T5 := T4.out.trans (P4.stays 3 (.int .i64 ((S.pl.at_ + 1 : Nat) : Int)))
  have bI5 := bI4.far (p := ⟨g, 3, none⟩) (Ne.symm hge) (.int .i64 ((S.pl.at_ + 1 : Nat) : Int))
  rw [show ((S.pl.at_ + 1 : Nat) : Int) = (S.pl.at_ : Int) + 1 by omega] at P5 T5 bI5
  obtain ⟨ow, cw, hvW⟩ := P4.wordLen (N := Q0g p) Hm.out.pl.wlen
  have g1 : w4.cell? ⟨g, 1, none⟩ = some (.slice ow (Q0g p) cw) := by rw [P4.box.cell, ← hvW]; rfl
  have P5 := Lib.hid P5
  have T5 := Lib.hid T5
  have BI5 := Lib.hid bI5
  have hcw : (S.pl.at_ : Int) + 1 ≤ 1000000 := by omega
  clear P4 T4 bI4 bI5 hvW
  have hq2 : m < 0 ∨ (0 ≤ m ∧ (Q0g p : Int) ≤ m) ∨ (0 ≤ m ∧ m < (Q0g p : Int)) := by omega
  cases hput : Q10 ⟨op, a, b, c, n⟩
  ·obtain rfl : pn = 0 := by rw [← Hpp.out, Qbj hput]
   have Hput := Lib.hid hput
   clear hput
   rcases hq2 with m0 | ⟨m0, m1⟩ | ⟨m0, m1⟩
   rotate_right 1
   ·have hmw : 0 ≤ m ∧ m < (S.pl.words.length : Int) := by rw [Hm.out.pl.wlen]; exact ⟨m0, m1⟩
    have HTo := Lib.hid (HTr.out.trans (Ql0 Hput.out hmw))
    have hd : decide (m < 0) = false := by simp; omega
    have hd2 : decide ((Q0g p : Int) ≤ m) = false := by simp; omega
    clear hmw
    go_wp2_with fail
    clear hd hd2
    generalize w4.setCell ⟨g, 3, none⟩ (.int .i64 ((S.pl.at_ : Int) + 1)) = w5 at *
    clear g3 g1
    have C := Qba P5.out
    (with_reducible refine C.mono ?_)
    clear C
    rintro er w6 ⟨rfl, V6, P6, T6⟩
    have hch : (({ S with seen := S.seen ++ [⟨2, m, 0⟩] } : Spc).goTo (S.pl.at_ + 1)).choice = S.choice := rfl
    rw [hch]
    have bI6 := T6.blk BI5.out (by decide) (by decide) (by decide) (by decide)
    have T6 := Lib.hid (T5.out.trans T6)
    have hmn : m.toNat < Q0g p := by omega
    obtain ⟨kR', cR', Y', hvR', hbR', hkg'⟩ := P6.regRow Hl.out
    obtain ⟨ra, fa⟩ := Q2q hbR' Hl.out Ha.out
    obtain ⟨kw3, cw3, hvW3, hkw3, wc3, -⟩ := P6.wordRow (N := Q0g p) (x := m.toNat) Hm.out.pl.wlen hmn
    replace wc3 : w6.cell? ⟨kw3, m.toNat, none⟩ = some (.int .i64 (S.pl.words.getD m.toNat 0)) := wc3
    have k0 : ∀ Wx, Ext w6 Wx → Wx.cell? ⟨g, 0, none⟩ = some (.slice (some ⟨kR', 0, none⟩) 10 cR') := fun _ h => h.kept (by rw [P6.box.cell, ← hvR']; rfl)
    have k1 : ∀ Wx, Ext w6 Wx → Wx.cell? ⟨g, 1, none⟩ = some (.slice (some ⟨kw3, 0, none⟩) (Q0g p) cw3) := fun _ h => h.kept (by rw [P6.box.cell, ← hvW3]; rfl)
    have kz : ∀ Wx, Ext w6 Wx → Wx.cell? ⟨kw3, m.toNat, none⟩ = some (.int .i64 (S.pl.words.getD m.toNat 0)) := fun _ h => h.kept wc3
    have q1 : ∀ Wx, Ext w6 Wx → Wx.cell? ⟨e, 1, none⟩ = some (.int .i64 a) := fun _ h => h.kept (by rw [bI6.cell]; rfl)
    have hgl6 := P6.box.lt
    have hel6 := bI6.lt
    have hkl6 := hbR'.lt
    have hixr := Q3l
    have P6 := Lib.hid P6
    generalize hz : S.pl.words.getD m.toNat 0 = z at *
    generalize hcc : S.choice = ch at *
    have Hz := Lib.hid hz
    have Hcc := Lib.hid hcc
    clear hz hcc hch
    go_upto_region 16 with fail
    refine Q0z 15 (by kernel_rfl) (by kernel_rfl) ?_
    simp only [List.take_succ_cons, List.take_zero, List.drop_succ_cons, List.drop_zero]
    repeat (first | (refine Q0r ?_ ?_ (fun wc hE => ?_) ?_; (decide); rfl; (focus (go_simp; done)); go_simp) | (refine Q0l ?_ ?_ ?_; (decide); (first | rfl | (focus (go_simp; done))); apply Exists.intro; refine ⟨fun wc hE => ?_, ?_⟩; (go_simp; exact rfl); go_simp) | (refine Q0s ?_ ?_ ?_; (decide); (first | rfl | (focus (go_simp; done))); apply Exists.intro; refine ⟨fun wc hE => ?_, ?_⟩; (go_simp; (first | fail)); go_simp) | (refine Q0p ?_ ?_ ?_; (decide); (focus (go_simp; done)); go_simp))
    refine Q0q ?_
    intro w7 hx7
    have rr := Q0c hx7 ⟨ra, fa⟩
    try simp only at rr
    have P7 := P6.out.extend hx7
    obtain ⟨P8, T8⟩ := P7.reg (x := a.toNat) hvR' z
    have T8 := Lib.hid ((T6.out.ext hx7).trans T8)
    have hke : e ≠ kR' := fun h => Blk.ne_ bI6 hbR' (by decide) h
    have bI8 := (bI6.ext hx7).far (p := ⟨kR', a.toNat, none⟩) hke (.int .i64 z)
    clear k0 k1 kz q1 ra fa wc3 hx7 P7 hbR' hvR' hvW3 hke bI6
    go_upto_region 17 with fail
    generalize w7.setCell ⟨kR', a.toNat, none⟩ (.int .i64 z) = w8 at *
    clear rr
    obtain ⟨kp, cp, ol, cl, hvP, hkp, hkpg, pc, -, -, hown⟩ := P8.pastRow (N := Q0g p) (x := m.toNat) Hm.out.pl.plen hmn
    replace pc : w8.cell? ⟨kp, m.toNat, none⟩ = some (.slice ol (S.pl.past.getD m.toNat []).length cl) := pc
    replace hown : w8.ownsRow wB.heap.size 2 1 (.slice ol (S.pl.past.getD m.toNat []).length cl) (S.pl.past.getD m.toNat []).length ((S.pl.past.getD m.toNat []).map (Value.int .i64)) := hown
    have g2 : w8.cell? ⟨g, 2, none⟩ = some (.slice (some ⟨kp, 0, none⟩) (Q0g p) cp) := by rw [P8.box.cell, ← hvP]; rfl
    have hixs := Qck
    have hrow8 := (Hm.out.pl.row m.toNat).1
    have P8 := Lib.hid P8
    have hgl8 := P8.out.box.lt
    have BI8 := Lib.hid bI8
    have hel8 := bI8.lt
    generalize hrow5 : S.pl.past.getD m.toNat [] = row at *
    have Hrow5 := Lib.hid hrow5
    clear bI8 hvP hrow5
    by_cases hcond : 0 < ch ∧ ch ≤ (row.length : Int)
    ·have HTb : Hid (T = ((((({ S with seen := S.seen ++ [⟨2, m, 0⟩] } : Spc).goTo (S.pl.at_ + 1)).chosen).put_ a z).leave).put_ a (row.getD (row.length - ch.toNat) 0)) := Lib.hid (by
      rw [← Hrow5.out, ← Hcc.out, ← Hz.out]
      rw [← Hrow5.out, ← Hcc.out] at hcond
      exact HTo.out.trans (Qix hcond))
     obtain ⟨c0, c1⟩ := hcond
     have hj : row.length - ch.toNat < row.length := by omega
     obtain ⟨kq, cq, hvq, -, hcq⟩ := own_at' hown (by omega)
     simp only [Value.slice.injEq, true_and] at hvq
     obtain ⟨rfl, rfl⟩ := hvq
     obtain ⟨rq, -⟩ := hcq (row.length - ch.toNat) (.int .i64 (row.getD (row.length - ch.toNat) 0)) hj (by simp [hj])
     have hkq := Q0a rq
     simp only at hkq
     have hix : ∀ W, (Instr.indexAt 71 (.slice (some ⟨kq, 0, none⟩) row.length cl) (.int .i64 ((row.length : Int) - ch))).run Try.prog W = .ok (.pointer (some ⟨kq, row.length - ch.toNat, none⟩)) W := fun W => by
      have := Q3l W kq row.length cl ((row.length : Int) - ch) (by omega) (by omega)
      rw [show ((row.length : Int) - ch).toNat = row.length - ch.toNat by omega] at this
      exact this
     have hd3 : decide (0 < ch) = true := by simpa using c0
     have hd4 : decide (ch ≤ (row.length : Int)) = true := by simpa using c1
     have hrN : (row.length : Int) ≤ 1000000 := by omega
     generalize row.getD (row.length - ch.toNat) 0 = was at *
     generalize row.length - ch.toNat = jj at *
     clear hown hcq
     go_wp2_with fail
     have hpl8 : PlOk p N (((({ S with seen := S.seen ++ [⟨2, m, 0⟩] } : Spc).goTo (S.pl.at_ + 1)).chosen).put_ a z).pl := (Hm.out.pl.goTo (k := S.pl.at_ + 1) (by have := Hat.out; omega)).reg a (by rw [← Hz.out]; exact Hm.out.pl.w64 _)
     have C := Qb5 P8.out hpl8 (by omega) hN
     (with_reducible refine C.mono ?_)
     clear C
     rintro er w9 ⟨rfl, V9, P9, T9⟩
     have bI9 := T9.blk BI8.out (by decide) (by decide) (by decide) (by decide)
     have T9 := Lib.hid (T8.out.trans T9)
     have hl9 : ((((({ S with seen := S.seen ++ [⟨2, m, 0⟩] } : Spc).goTo (S.pl.at_ + 1)).chosen).put_ a z).leave).pl.regs.length = 10 := by rw [Qfx]; exact hpl8.len
     obtain ⟨kR9, cR9, Y9, hvR9, hbR9, hkg9⟩ := P9.regRow hl9
     obtain ⟨ra, fa⟩ := Q2q hbR9 hl9 Ha.out
     have k0 : ∀ Wx, Ext w9 Wx → Wx.cell? ⟨g, 0, none⟩ = some (.slice (some ⟨kR9, 0, none⟩) 10 cR9) := fun _ h => h.kept (by rw [P9.box.cell, ← hvR9]; rfl)
     have q1 : ∀ Wx, Ext w9 Wx → Wx.cell? ⟨e, 1, none⟩ = some (.int .i64 a) := fun _ h => h.kept (by rw [bI9.cell]; rfl)
     have hgl9 := P9.box.lt
     have hel9 := bI9.lt
     have hkl9 := hbR9.lt
     have P9 := Lib.hid P9
     clear hd3 hd4 hix rq pc g2 hl9
     go_upto_region 21 with fail
     refine Q0z 8 (by kernel_rfl) (by kernel_rfl) ?_
     simp only [List.take_succ_cons, List.take_zero, List.drop_succ_cons, List.drop_zero]
     repeat (first | (refine Q0r ?_ ?_ (fun wc hE => ?_) ?_; (decide); rfl; (focus (go_simp; done)); go_simp) | (refine Q0l ?_ ?_ ?_; (decide); (first | rfl | (focus (go_simp; done))); apply Exists.intro; refine ⟨fun wc hE => ?_, ?_⟩; (go_simp; exact rfl); go_simp) | (refine Q0s ?_ ?_ ?_; (decide); (first | rfl | (focus (go_simp; done))); apply Exists.intro; refine ⟨fun wc hE => ?_, ?_⟩; (go_simp; (first | fail)); go_simp) | (refine Q0p ?_ ?_ ?_; (decide); (focus (go_simp; done)); go_simp))
     refine Q0q ?_
     intro w10 hx10
     have rr := Q0c hx10 ⟨ra, fa⟩
     try simp only at rr
     have P10 := P9.out.extend hx10
     obtain ⟨P11, T11⟩ := P10.reg (x := a.toNat) hvR9 was
     have P11 := Lib.hid P11
     have T11 := Lib.hid ((T9.out.ext hx10).trans T11)
     clear k0 q1 ra fa hx10 P10 hbR9 hvR9 bI9
     go_wp2
     refine bodyPost_end (results_none rfl _ _ _) rfl ?_
     rw [HTb.out]
     exact ⟨rfl, _, P11.out, T11.out⟩
    ·have HTb : Hid (T = ((({ S with seen := S.seen ++ [⟨2, m, 0⟩] } : Spc).goTo (S.pl.at_ + 1)).chosen).put_ a z) := Lib.hid (by
      rw [← Hz.out]
      rw [← Hrow5.out, ← Hcc.out] at hcond
      exact HTo.out.trans (Qiv hcond))
     have hq4 : decide (0 < ch) = false ∨ (decide (0 < ch) = true ∧ decide (ch ≤ (row.length : Int)) = false) := by
      by_cases h0 : 0 < ch
      ·exact .inr ⟨by simpa using h0, by simp; omega⟩
      ·exact .inl (by simpa using h0)
     clear hcond hown
     rcases hq4 with hd3 | ⟨hd3, hd4⟩
     all_goals
      go_wp2
      refine bodyPost_end (results_none rfl _ _ _) rfl ?_
      rw [HTb.out]
      exact ⟨rfl, _, P8.out, T8.out⟩
   all_goals
    have HTo := Lib.hid (HTr.out.trans (Ql2 Hput.out (by rw [Hm.out.pl.wlen]; omega)))
    try (have hd : decide (m < 0) = true := by simpa using m0)
    try (have hd : decide (m < 0) = false := by simp; omega)
    try (have hd2 : decide ((Q0g p : Int) ≤ m) = true := by simpa using m1)
    go_upto_region 11 with fail
    generalize w4.setCell ⟨g, 3, none⟩ (.int .i64 ((S.pl.at_ : Int) + 1)) = w5 at *
    clear g3 g1
    obtain ⟨kR', cR', Y', hvR', hbR', hkg'⟩ := P5.out.regRow Hl.out
    obtain ⟨ra, fa⟩ := Q2q hbR' Hl.out Ha.out
    have hixr := Q3l
    have k0 : ∀ Wx, Ext w5 Wx → Wx.cell? ⟨g, 0, none⟩ = some (.slice (some ⟨kR', 0, none⟩) 10 cR') := fun _ h => h.kept (by rw [P5.out.box.cell, ← hvR']; rfl)
    have q1 : ∀ Wx, Ext w5 Wx → Wx.cell? ⟨e, 1, none⟩ = some (.int .i64 a) := fun _ h => h.kept (by rw [BI5.out.cell]; rfl)
    have hgl5 := P5.out.box.lt
    have hel5 := BI5.out.lt
    have hkl5 := hbR'.lt
    refine Q0z 7 (by kernel_rfl) (by kernel_rfl) ?_
    simp only [List.take_succ_cons, List.take_zero, List.drop_succ_cons, List.drop_zero]
    repeat (first | (refine Q0r ?_ ?_ (fun wc hE => ?_) ?_; (decide); rfl; (focus (go_simp; done)); go_simp) | (refine Q0l ?_ ?_ ?_; (decide); (first | rfl | (focus (go_simp; done))); apply Exists.intro; refine ⟨fun wc hE => ?_, ?_⟩; (go_simp; exact rfl); go_simp) | (refine Q0s ?_ ?_ ?_; (decide); (first | rfl | (focus (go_simp; done))); apply Exists.intro; refine ⟨fun wc hE => ?_, ?_⟩; (go_simp; (first | fail)); go_simp) | (refine Q0p ?_ ?_ ?_; (decide); (focus (go_simp; done)); go_simp))
    refine Q0q ?_
    intro w6 hx6
    have rr := Q0c hx6 ⟨ra, fa⟩
    try simp only at rr
    have P6 := P5.out.extend hx6
    obtain ⟨P7, T7⟩ := P6.reg (x := a.toNat) hvR' 0
    have P7 := Lib.hid P7
    have T7 := Lib.hid ((T5.out.ext hx6).trans T7)
    clear k0 q1 ra fa hx6 P6 hbR' hvR'
    go_wp2
    refine bodyPost_end (results_none rfl _ _ _) rfl ?_
    rw [HTo.out]
    exact ⟨rfl, _, P7.out, T7.out⟩
  ·obtain rfl : pn = 1 := by rw [← Hpp.out, Qbk hput]
   have Hput := Lib.hid hput
   clear hput
   rcases hq2 with m0 | ⟨m0, m1⟩ | ⟨m0, m1⟩
   rotate_right 1
   ·have hmw : 0 ≤ m ∧ m < (S.pl.words.length : Int) := by rw [Hm.out.pl.wlen]; exact ⟨m0, m1⟩
    have HTo := Lib.hid (HTr.out.trans (Ql1 Hput.out hmw))
    have hd : decide (m < 0) = false := by simp; omega
    have hd2 : decide ((Q0g p : Int) ≤ m) = false := by simp; omega
    clear hmw
    go_upto_region 13 with fail
    clear hd hd2
    generalize w4.setCell ⟨g, 3, none⟩ (.int .i64 ((S.pl.at_ : Int) + 1)) = w5 at *
    clear g3 g1
    have hmn : m.toNat < Q0g p := by omega
    obtain ⟨kp, cp, ol, cl, hvP, hkp, hkpg, pc, pf, hvs, hown⟩ := P5.out.pastRow (N := Q0g p) (x := m.toNat) Hm.out.pl.plen hmn
    obtain ⟨kw, cw2, hvW, hkw, wc, wf⟩ := P5.out.wordRow (N := Q0g p) (x := m.toNat) Hm.out.pl.wlen hmn
    have hrl5 : ((({ S with seen := S.seen ++ [⟨2, m, 1⟩] } : Spc).goTo (S.pl.at_ + 1)).pl.past.getD m.toNat []).length ≤ N := (Hm.out.pl.row m.toNat).1
    have hwg : (({ S with seen := S.seen ++ [⟨2, m, 1⟩] } : Spc).goTo (S.pl.at_ + 1)).pl.words.getD m.toNat 0 = S.pl.words.getD m.toNat 0 := rfl
    have hpg : (({ S with seen := S.seen ++ [⟨2, m, 1⟩] } : Spc).goTo (S.pl.at_ + 1)).pl.past.getD m.toNat [] = S.pl.past.getD m.toNat [] := rfl
    rw [hwg] at wc
    rw [hpg] at pc hvs hown hrl5
    have hn1 : (Value.slice ol (S.pl.past.getD m.toNat []).length cl).ownBlock ≠ some g := fun e => Q09 hown P5.out.box (by decide) e.symm
    have hn2 : (Value.slice ol (S.pl.past.getD m.toNat []).length cl).ownBlock ≠ some kp := fun e => Q1w hown P5.out.core.out (by decide) kp e (by rw [hvP]; rfl)
    have hn3 : (Value.slice ol (S.pl.past.getD m.toNat []).length cl).ownBlock ≠ some kw := fun e => by
     have hvl : V4.vs.length = Q0g p := by have := P5.out.core.out.1; have := Hm.out.pl.plen; simp only [Spc.goTo] at *; omega
     have h1 := P5.out.core.fam.ne (i := 2 + m.toNat) (j := 1) (by omega) (Qb4 V4 _ (n := m.toNat) (by omega) (by have := Hm.out.pl.plen; simp only [Spc.goTo]; omega)) (Q5w V4 _) kw (by rw [hvs]; exact e)
     exact h1 (by rw [hvW]; rfl)
    have Hvs := Lib.hid hvs
    have Hown := Lib.hid hown
    have HvP := Lib.hid hvP
    generalize hrow5 : S.pl.past.getD m.toNat [] = row at *
    generalize hz : S.pl.words.getD m.toNat 0 = z at *
    have k1 : ∀ Wx, Off (.slice ol row.length cl) w5 Wx → Wx.cell? ⟨g, 1, none⟩ = some (.slice (some ⟨kw, 0, none⟩) (Q0g p) cw2) := fun _ h => h.kept (by rw [P5.out.box.cell, ← hvW]; rfl) hn1
    have k2 : ∀ Wx, Off (.slice ol row.length cl) w5 Wx → Wx.cell? ⟨g, 2, none⟩ = some (.slice (some ⟨kp, 0, none⟩) (Q0g p) cp) := fun _ h => h.kept (by rw [P5.out.box.cell, ← hvP]; rfl) hn1
    have kc : ∀ Wx, Off (.slice ol row.length cl) w5 Wx → Wx.cell? ⟨kp, m.toNat, none⟩ = some (.slice ol row.length cl) := fun _ h => h.kept pc hn2
    have kz : ∀ Wx, Off (.slice ol row.length cl) w5 Wx → Wx.cell? ⟨kw, m.toNat, none⟩ = some (.int .i64 z) := fun _ h => h.kept wc hn3
    have hixr := Q3l
    have hixs := Qck
    obtain ⟨i0, hi0, hz0, hz1, hz2⟩ := info_parts Qci
    have hgl5 := P5.out.box.lt
    have hel5 := BI5.out.lt
    refine Qld (R := Off (.slice ol row.length cl)) [22, 23, 24, 25] 2 (Turn.refl _) (Turn.ofExt (Ext.refl _).drew) (by kernel_rfl) (by kernel_rfl) ?_
    repeat (first | (refine Qr4 ?_ ?_; (decide)) | (refine Qr1 ?_ ?_ ?_; (decide); (first | rfl | (focus (go_simp; done))); apply Exists.intro; refine ⟨fun wc hE => ?_, ?_⟩; (go_simp; exact rfl); go_simp) | (refine Qr2 ?_ ?_ ?_; (decide); (focus (go_simp; done)); go_simp))
    refine Qr3 ?_
    clear k1 k2 kc kz
    have HX6 := Lib.hid ((Ext.refl w5).drew)
    have PC6 : w5.drew.cell? ⟨kp, m.toNat, none⟩ = some (.slice ol row.length cl) ∧ w5.drew.frozen? ⟨kp, m.toNat, none⟩ = false := Q0c HX6.out ⟨pc, pf⟩
    have hbB := P5.out.core.ext.size
    have h56 := HX6.out.size
    generalize w5.drew = w6 at *
    refine Qdb rfl ?_
    go_wp2
    refine ⟨Turn.ofExt (HX6.out.alloc _), ?_⟩
    refine Qdb rfl ?_
    refine Q2h _ rfl (.tmp 108) (.tmp 117) 71 rfl wB.heap.size 2 i0 _ 1 8 Try.underlying71 hi0 hz0 hz1 hz2 rfl (by decide) _ row.length (row.map (Value.int .i64)) rfl ?c0 (some ⟨w6.heap.size, 0, none⟩) 1 1 [.int .i64 z] rfl ?c1 ?c3 ?c4 ?c5 ?_
    case c0 => exact Q3d (Q34 Hown.out HX6.out)
    case c1 => exact Q41 (size := 1) (Blk.new w6 2 #[.int .i64 z]) rfl (by simp [Value.oneCell'])
    case c3 => unfold maxLen; omega
    case c4 => omega
    case c5 => simp; omega
    intro v7 w7 hown7 hgrow hat7
    obtain ⟨o7, c7, rfl⟩ := Q13 hown7
    have hgrow : (w6.alloc (.cells #[.int .i64 z] 2)).grownBy w7 (Value.slice ol row.length cl).ownBlock := hgrow
    have HOff : Hid (Off (.slice ol row.length cl) w5 w7) := Lib.hid ((Turn.ofExt (S := fun j => (Value.slice ol row.length cl).ownBlock = some j) (HX6.out.alloc (.cells #[.int .i64 z] 2))).trans (Turn.grown hgrow) (fun j _ e => e))
    have P6 := P5.out.extend (HX6.out.alloc (.cells #[.int .i64 z] 2))
    have hown7' : w7.ownsRow wB.heap.size 2 1 (.slice o7 (row.length + 1) c7) (row ++ [z]).length ((row ++ [z]).map (Value.int .i64)) := by simpa using hown7
    have hat7' : ∀ k, (Value.slice o7 (row.length + 1) c7).ownBlock = some k → (V4.vs.getD m.toNat undef).ownBlock = some k ∨ (w6.alloc (.cells #[.int .i64 z] 2)).heap.size ≤ k := fun k hk => by
     rw [Hvs.out]
     rcases hat7 with e | e
     ·left; rw [e] at hk; exact hk
     ·right; rw [e] at hk; exact Nat.le_of_eq (Option.some.inj hk)
    rw [← Hvs.out] at hgrow
    have hb7 := P6.box.grown hgrow (by rw [Hvs.out]; exact fun e => hn1 e.symm)
    have hcp : (({ S with seen := S.seen ++ [⟨2, m, 1⟩] } : Spc).goTo (S.pl.at_ + 1)).pl.past.length = Q0g p := Hm.out.pl.plen
    obtain ⟨C7, T7⟩ := P6.core.past (n := m.toNat) (by rw [hcp]; exact hmn) hgrow hown7' hat7' (kp := kp) (cap := cp) (by rw [hcp]; exact HvP.out)
    have bI7 := (BI5.out.ext (HX6.out.alloc (.cells #[.int .i64 z] 2))).grown hgrow (by rw [Hvs.out]; exact Q09 Hown.out BI5.out (by decide))
    have hkpe : e ≠ kp := fun h => Q09 P5.out.core.out BI5.out (by decide) (by rw [h, HvP.out]; rfl)
    have P8 := Lib.hid (RSt.mk (by exact hb7.far (p := ⟨kp, m.toNat, none⟩) (Ne.symm hkpg) (.slice o7 (row.length + 1) c7)) C7 P5.out.hg)
    have T8 := Lib.hid ((T5.out.ext (HX6.out.alloc (.cells #[.int .i64 z] 2))).trans T7)
    have BI8 := Lib.hid (bI7.far (p := ⟨kp, m.toNat, none⟩) hkpe (.slice o7 (row.length + 1) c7))
    have pc7 : w7.cell? ⟨kp, m.toNat, none⟩ = some (.slice ol row.length cl) ∧ w7.frozen? ⟨kp, m.toNat, none⟩ = false := by
     have hbk : w7.heap[kp]? = (w6.alloc (.cells #[.int .i64 z] 2)).heap[kp]? := hgrow.block kp (by simp; omega) (by rw [Hvs.out]; exact fun e => hn2 e.symm)
     refine ⟨?_, ?_⟩
     ·rw [World.cell?_of_block (a := ⟨kp, m.toNat, none⟩) hbk]
      exact ((Ext.refl w6).alloc _).kept PC6.1
     ·rw [World.frozen?_of_block (a := ⟨kp, m.toNat, none⟩) hbk]
      rw [((Ext.refl w6).alloc (.cells #[.int .i64 z] 2)).frozen (by simp only; omega)]
      exact PC6.2
    have hkp7 := Q0a pc7.1
    simp only at hkp7
    clear hown7 hgrow hat7 P6 hown7' hat7' hb7 C7 T7 bI7 hkpe PC6 hvs hown hvP
    go_wp2
    refine ⟨HOff.out, ?_⟩
    refine Qhx (Q1d rfl (Q1d rfl (Q36))) ?_
    go_upto_region 14 with fail
    generalize w7.setCell ⟨kp, m.toNat, none⟩ (.slice o7 (row.length + 1) c7) = w8 at *
    obtain ⟨kR', cR', Y', hvR', hbR', hkg'⟩ := P8.out.regRow Hl.out
    obtain ⟨ra, -⟩ := Q2q hbR' Hl.out Ha.out
    obtain ⟨kw3, cw3, hvW3, hkw3, wc3, wf3⟩ := P8.out.wordRow (N := Q0g p) (x := m.toNat) Hm.out.pl.wlen hmn
    replace ra : w8.cell? ⟨kR', a.toNat, none⟩ = some (.int .i64 (rg S.pl.regs a)) := ra
    have k0 : ∀ Wx, Ext w8 Wx → Wx.cell? ⟨g, 0, none⟩ = some (.slice (some ⟨kR', 0, none⟩) 10 cR') := fun _ h => h.kept (by rw [P8.out.box.cell, ← hvR']; rfl)
    have k1 : ∀ Wx, Ext w8 Wx → Wx.cell? ⟨g, 1, none⟩ = some (.slice (some ⟨kw3, 0, none⟩) (Q0g p) cw3) := fun _ h => h.kept (by rw [P8.out.box.cell, ← hvW3]; rfl)
    have ka : ∀ Wx, Ext w8 Wx → Wx.cell? ⟨kR', a.toNat, none⟩ = some (.int .i64 (rg S.pl.regs a)) := fun _ h => h.kept ra
    have q1 : ∀ Wx, Ext w8 Wx → Wx.cell? ⟨e, 1, none⟩ = some (.int .i64 a) := fun _ h => h.kept (by rw [BI8.out.cell]; rfl)
    have hgl8 := P8.out.box.lt
    have hel8 := BI8.out.lt
    have hkl8 := hbR'.lt
    refine Q0z 15 (by kernel_rfl) (by kernel_rfl) ?_
    simp only [List.take_succ_cons, List.take_zero, List.drop_succ_cons, List.drop_zero]
    repeat (first | (refine Q0r ?_ ?_ (fun wc hE => ?_) ?_; (decide); rfl; (focus (go_simp; done)); go_simp) | (refine Q0l ?_ ?_ ?_; (decide); (first | rfl | (focus (go_simp; done))); apply Exists.intro; refine ⟨fun wc hE => ?_, ?_⟩; (go_simp; exact rfl); go_simp) | (refine Q0s ?_ ?_ ?_; (decide); (first | rfl | (focus (go_simp; done))); apply Exists.intro; refine ⟨fun wc hE => ?_, ?_⟩; (go_simp; (first | fail)); go_simp) | (refine Q0p ?_ ?_ ?_; (decide); (focus (go_simp; done)); go_simp))
    refine Q0q ?_
    intro w9 hx9
    have rr := Q0c hx9 ⟨wc3, wf3⟩
    have P9 := P8.out.extend hx9
    obtain ⟨P10, T10⟩ := P9.word (x := m.toNat) hvW3 (rg S.pl.regs a)
    have P10 := Lib.hid P10
    have T10 := Lib.hid ((T8.out.ext hx9).trans T10)
    clear k0 k1 ka q1 ra wc3 wf3 hx9 P9 hbR' hvR' hvW3
    go_wp2
    refine bodyPost_end (results_none rfl _ _ _) rfl ?_
    rw [HTo.out]
    exact ⟨rfl, _, P10.out, T10.out⟩
   all_goals
    have HTo := Lib.hid (HTr.out.trans (Ql3 Hput.out (by rw [Hm.out.pl.wlen]; omega)))
    try (have hd : decide (m < 0) = true := by simpa using m0)
    try (have hd : decide (m < 0) = false := by simp; omega)
    try (have hd2 : decide ((Q0g p : Int) ≤ m) = true := by simpa using m1)
    go_wp2
    refine bodyPost_end (results_none rfl _ _ _) rfl ?_
    rw [HTo.out]
    exact ⟨rfl, _, P5.out, T5.out⟩
theorem Qmp {i : LIns} (h : i.op = 3 ∨ i.op = 4 ∨ i.op = 5 ∨ i.op = 6) : putV i.op = putN i := by
 unfold putV putN Q10
 rcases h with h | h | h | h <;> simp [h]
set_option maxRecDepth 100000 in
set_option maxHeartbeats 8000000 in
theorem Qko {wB w : World} {g : Nat} {vG vC : Value} {V : RV} {S : Spc} {p : Q01} {N : Nat} (i : LIns) (hi : Q00 p 10 i = true) (hfi : i.fits) (hr : Q02 p.regs = true) (hp : Q07 wB (.agg #[vG, vC]) p) (hm : SMid p N S) (hN : N ≤ 1000000)
  (hat : S.pl.at_ < p.code.length) (hcl : p.code.length ≤ 1000000) (hsn : S.seen.length ≤ 900000) (h : RSt wB w g vG vC V S) :
  Calls Try.prog 76 #[.pointer (some ⟨g, 0, none⟩), insV i] w (Q85 wB w g vG vC (doS p i S) (.bool (Q2s i S))) := by
 have htt := Q8a hr
 have Hp := Lib.hid hp
 have Hr := Lib.hid hr
 have Hi := Lib.hid hi
 have Hfi := Lib.hid hfi
 have Hm := Lib.hid hm
 have H := Lib.hid h
 have Hat := Lib.hid hat
 have Hl := Lib.hid hm.pl.len
 have Hsn := Lib.hid hsn
 have hgl := h.box.lt
 have HT : Hid (doS p i S = doS p i S) := Lib.hid rfl
 have HO : Hid (Q2s i S = Q2s i S) := Lib.hid rfl
 generalize hT : doS p i S = T at *
 generalize hO : Q2s i S = ob at *
 replace HT := Lib.hid hT
 replace HO := Lib.hid hO
 obtain ⟨op, a, b, c, n⟩ := i
 unfold insV
 simp only
 clear hp hr hi hfi hm h hsn hT hO
 go_enter Try.func76, Try.ntmps76
 go_upto_region 1 with fail
 obtain ⟨w0, e, he, hW, hs0, hx0, c0, c1, c2, c3, c4⟩ := new5 w 70 (.int .i64 op) (.int .i64 a) (.int .i64 b) (.int .i64 c) (.int .i64 n)
 have bI : Blk w0 e 70 #[.int .i64 op, .int .i64 a, .int .i64 b, .int .i64 c, .int .i64 n] := by rw [← hW, ← he]; exact Blk.new _ _ _
 rw [hW, he]
 have X := Lib.hid hx0
 have hge : g ≠ e := by omega
 clear hW hs0 hx0 he
 go_wp2_with fail
 have C := Qlu ⟨op, a, b, c, n⟩ w0
 simp only [insV] at C
 (with_reducible refine C.mono ?_)
 clear C
 rintro er w1 ⟨rfl, hx⟩
 have X := Lib.hid (X.out.trans hx)
 have bI := bI.ext hx
 have BI := Lib.hid bI
 have P := Lib.hid (H.out.extend X.out)
 have i0 : w1.cell? ⟨e, 0, none⟩ = some (.int .i64 op) := by rw [bI.cell]; rfl
 have i1 : w1.cell? ⟨e, 1, none⟩ = some (.int .i64 a) := by rw [bI.cell]; rfl
 have i2 : w1.cell? ⟨e, 2, none⟩ = some (.int .i64 b) := by rw [bI.cell]; rfl
 have i3 : w1.cell? ⟨e, 3, none⟩ = some (.int .i64 c) := by rw [bI.cell]; rfl
 have i4 : w1.cell? ⟨e, 4, none⟩ = some (.int .i64 n) := by rw [bI.cell]; rfl
 have g3 : w1.cell? ⟨g, 3, none⟩ = some (.int .i64 (S.pl.at_ : Int)) ∧ w1.frozen? ⟨g, 3, none⟩ = false := ⟨by rw [P.out.box.cell]; rfl, P.out.box.frozen _⟩
 have g12 : w1.cell? ⟨g, 12, none⟩ = some (.bool S.ahead) := by rw [P.out.box.cell]; rfl
 have hgl1 := P.out.box.lt
 have hel1 := bI.lt
 have hcw : (S.pl.at_ : Int) + 1 ≤ 1000000 := by omega
 clear hx bI c0 c1 c2 c3 c4 hgl
 simp only
 by_cases h7 : op = 7
 ·subst h7
  have hn := (Q2t Hi.out).2.2.2.2.2.2.2.2.2.1 (.inl rfl)
  simp only at hn
  have Hn : Hid (n = ((n.toNat : Nat) : Int)) := Lib.hid (by omega)
  have HTs : Hid (T = S.goTo n.toNat) := Lib.hid (by rw [← HT.out]; unfold doS; rw [if_pos rfl])
  have HOs : Hid (ob = false) := Lib.hid (by rw [← HO.out]; simp [Q2s])
  have P2 := P.out.at__ n.toNat
  have T2 := (Q0u.ofExt X.out).trans (P.out.stays 3 (.int .i64 ((n.toNat : Nat) : Int)))
  rw [← Hn.out] at P2 T2
  have P2 := Lib.hid P2
  have T2 := Lib.hid T2
  clear hn
  go_wp2
  go_ret
  rw [HTs.out, HOs.out]
  exact ⟨rfl, _, P2.out, T2.out⟩
 by_cases h8 : op = 8
 ·subst h8
  have hn := (Q2t Hi.out).2.2.2.2.2.2.2.2.2.1 (.inr rfl)
  obtain ⟨ha, hb, -, -⟩ := (Q2t Hi.out).2.2.2.2.2.1 rfl
  simp only at hn ha hb
  have Hn : Hid (n = ((n.toNat : Nat) : Int)) := Lib.hid (by omega)
  have hnl : n.toNat ≤ p.code.length := by omega
  have HOs : Hid (ob = false) := Lib.hid (by rw [← HO.out]; simp [Q2s])
  obtain ⟨a0, a1⟩ := Q05.1 ha
  obtain ⟨b0, b1⟩ := Q05.1 hb
  obtain ⟨kR, cR, Y, hvR, hbR, hkg⟩ := P.out.regRow Hl.out
  obtain ⟨ra, -⟩ := Q2q hbR Hl.out ha
  obtain ⟨rb, -⟩ := Q2q hbR Hl.out hb
  obtain ⟨va0, va1⟩ := rg64 Hm.out.pl.r64 a
  obtain ⟨vb0, vb1⟩ := rg64 Hm.out.pl.r64 b
  have k0 : ∀ W, Ext w1 W → W.cell? ⟨g, 0, none⟩ = some (.slice (some ⟨kR, 0, none⟩) 10 cR) := fun _ h => h.kept (by rw [P.out.box.cell, ← hvR]; rfl)
  have k1 : ∀ W, Ext w1 W → W.cell? ⟨e, 1, none⟩ = some (.int .i64 a) := fun _ h => h.kept i1
  have k2 : ∀ W, Ext w1 W → W.cell? ⟨e, 2, none⟩ = some (.int .i64 b) := fun _ h => h.kept i2
  have k3 : ∀ W, Ext w1 W → W.cell? ⟨e, 3, none⟩ = some (.int .i64 c) := fun _ h => h.kept i3
  have ma : ∀ W, Ext w1 W → W.cell? ⟨kR, a.toNat, none⟩ = some (.int .i64 (rg S.pl.regs a)) := fun _ h => h.kept ra
  have mb : ∀ W, Ext w1 W → W.cell? ⟨kR, b.toNat, none⟩ = some (.int .i64 (rg S.pl.regs b)) := fun _ h => h.kept rb
  have hixr := Q3l
  clear hn i1 i2 i3 ra rb hvR hbR hkg
  cases hh : Q6g c (rg S.pl.regs a) (rg S.pl.regs b)
  ·have HTs : Hid (T = if S.choice = 0 then (S.goTo (S.pl.at_ + 1)).chosen else ((S.goTo (S.pl.at_ + 1)).chosen).leave.goTo (n.toNat)) := Lib.hid (by
    rw [← HT.out]
    unfold doS Q5r
    simp only
    rw [if_neg (by omega), if_pos trivial, hh]
    rfl)
   have C8 : ∀ W, Calls Try.prog 64 #[.int .i64 c, .int .i64 (rg S.pl.regs a), .int .i64 (rg S.pl.regs b)] W fun e w' => e = .returned (.bool false) ∧ W = w' := fun W => by
    have := Qei c (rg S.pl.regs a) (rg S.pl.regs b) W va0 va1 vb0 vb1
    rw [hh] at this
    exact this
   have C8 := Lib.hid C8
   clear hh va0 va1 vb0 vb1
   go_upto_region 10 with fail
   refine Q0z 21 (by kernel_rfl) (by kernel_rfl) ?_
   simp only [List.take_succ_cons, List.take_zero, List.drop_succ_cons, List.drop_zero]
   repeat (first | (refine Q0r ?_ ?_ (fun wc hE => ?_) ?_; (decide); rfl; (focus (go_simp; done)); go_simp) | (refine Q0l ?_ ?_ ?_; (decide); (first | rfl | (focus (go_simp; done))); apply Exists.intro; refine ⟨fun wc hE => ?_, ?_⟩; (go_simp; exact rfl); go_simp) | (refine Q0s ?_ ?_ ?_; (decide); (first | rfl | (focus (go_simp; done))); apply Exists.intro; refine ⟨fun wc hE => ?_, ?_⟩; (go_simp; (first | (with_reducible exact Qhf (C8.out _)))); go_simp) | (refine Q0p ?_ ?_ ?_; (decide); (focus (go_simp; done)); go_simp))
   refine Q0q ?_
   intro w2 hx
   have P1 := P.out.extend hx
   have i4 : w2.cell? ⟨e, 4, none⟩ = some (.int .i64 n) := hx.kept i4
   have g3 := Q0c hx g3
   have hel2 : e < w2.heap.size := hx.lt hel1
   have hgl2 := P1.box.lt
   have P2 := P1.at__ (S.pl.at_ + 1)
   have T2 := ((Q0u.ofExt X.out).ext hx).trans (P1.stays 3 (.int .i64 ((S.pl.at_ + 1 : Nat) : Int)))
   rw [show ((S.pl.at_ + 1 : Nat) : Int) = (S.pl.at_ : Int) + 1 by omega] at P2 T2
   have P2 := Lib.hid P2
   have T2 := Lib.hid T2
   have hpl := Lib.hid (Hm.out.pl.goTo (k := S.pl.at_ + 1) (by have := Hat.out; omega))
   have Hwr : Hid (((n.toNat : Nat) : Int) = n) := Lib.hid (by first | exact Hn.out.symm | omega)
   clear k0 k1 k2 k3 ma mb C8 hx P1
   go_wp2_with fail
   have C := Qba P2.out
   (with_reducible refine C.mono ?_)
   clear C
   rintro er w3 ⟨rfl, V3, P3, T3⟩
   have hch : (S.goTo (S.pl.at_ + 1)).choice = S.choice := rfl
   rw [hch]
   have T3 := Lib.hid (T2.out.trans T3)
   have P3 := Lib.hid P3
   clear hch g3 i4
   by_cases hz : S.choice = 0
   ·rw [hz]
    have HTz := Lib.hid (HTs.out.trans (if_pos hz))
    clear hz
    go_wp2
    go_ret
    rw [HTz.out, HOs.out]
    exact ⟨rfl, _, P3.out, T3.out⟩
   ·have HTz := Lib.hid (HTs.out.trans (if_neg hz))
    have q0 : (S.choice != (0 : Int)) = true := by simpa using hz
    clear hz HTs
    generalize S.choice = ch at *
    go_wp2_with fail
    have C := Qb5 P3.out hpl.out (by omega) hN
    (with_reducible refine C.mono ?_)
    clear C
    rintro er w4 ⟨rfl, V4, P4, T4⟩
    have g3 : w4.cell? ⟨g, 3, none⟩ = some (.int .i64 ((((S.goTo (S.pl.at_ + 1)).chosen).leave).pl.at_ : Int)) ∧ w4.frozen? ⟨g, 3, none⟩ = false := ⟨by rw [P4.box.cell]; rfl, P4.box.frozen _⟩
    have hgl4 := P4.box.lt
    have P5 := P4.at__ (n.toNat)
    have T5 := (T3.out.trans T4).trans (P4.stays 3 (.int .i64 ((n.toNat : Nat) : Int)))
    rw [Hwr.out] at P5 T5
    have P5 := Lib.hid P5
    have T5 := Lib.hid T5
    generalize (((S.goTo (S.pl.at_ + 1)).chosen).leave).pl.at_ = aa at *
    clear P4 T4 q0
    go_wp2
    go_ret
    rw [HTz.out, HOs.out]
    exact ⟨rfl, _, P5.out, T5.out⟩
  ·have HTs : Hid (T = if S.choice = 0 then (S.goTo (n.toNat)).chosen else ((S.goTo (n.toNat)).chosen).leave.goTo (S.pl.at_ + 1)) := Lib.hid (by
    rw [← HT.out]
    unfold doS Q5r
    simp only
    rw [if_neg (by omega), if_pos trivial, hh]
    rfl)
   have C8 : ∀ W, Calls Try.prog 64 #[.int .i64 c, .int .i64 (rg S.pl.regs a), .int .i64 (rg S.pl.regs b)] W fun e w' => e = .returned (.bool true) ∧ W = w' := fun W => by
    have := Qei c (rg S.pl.regs a) (rg S.pl.regs b) W va0 va1 vb0 vb1
    rw [hh] at this
    exact this
   have C8 := Lib.hid C8
   clear hh va0 va1 vb0 vb1
   go_upto_region 10 with fail
   refine Q0z 21 (by kernel_rfl) (by kernel_rfl) ?_
   simp only [List.take_succ_cons, List.take_zero, List.drop_succ_cons, List.drop_zero]
   repeat (first | (refine Q0r ?_ ?_ (fun wc hE => ?_) ?_; (decide); rfl; (focus (go_simp; done)); go_simp) | (refine Q0l ?_ ?_ ?_; (decide); (first | rfl | (focus (go_simp; done))); apply Exists.intro; refine ⟨fun wc hE => ?_, ?_⟩; (go_simp; exact rfl); go_simp) | (refine Q0s ?_ ?_ ?_; (decide); (first | rfl | (focus (go_simp; done))); apply Exists.intro; refine ⟨fun wc hE => ?_, ?_⟩; (go_simp; (first | (with_reducible exact Qhf (C8.out _)))); go_simp) | (refine Q0p ?_ ?_ ?_; (decide); (focus (go_simp; done)); go_simp))
   refine Q0q ?_
   intro w2 hx
   have P1 := P.out.extend hx
   have i4 : w2.cell? ⟨e, 4, none⟩ = some (.int .i64 n) := hx.kept i4
   have g3 := Q0c hx g3
   have hel2 : e < w2.heap.size := hx.lt hel1
   have hgl2 := P1.box.lt
   have P2 := P1.at__ (n.toNat)
   have T2 := ((Q0u.ofExt X.out).ext hx).trans (P1.stays 3 (.int .i64 ((n.toNat : Nat) : Int)))
   rw [← Hn.out] at P2 T2
   have P2 := Lib.hid P2
   have T2 := Lib.hid T2
   have hpl := Lib.hid (Hm.out.pl.goTo (k := n.toNat) (by have := Hat.out; omega))
   have Hwr : Hid (((S.pl.at_ + 1 : Nat) : Int) = (S.pl.at_ : Int) + 1) := Lib.hid (by first | exact Hn.out.symm | omega)
   clear k0 k1 k2 k3 ma mb C8 hx P1
   go_wp2_with fail
   have C := Qba P2.out
   (with_reducible refine C.mono ?_)
   clear C
   rintro er w3 ⟨rfl, V3, P3, T3⟩
   have hch : (S.goTo (n.toNat)).choice = S.choice := rfl
   rw [hch]
   have T3 := Lib.hid (T2.out.trans T3)
   have P3 := Lib.hid P3
   clear hch g3 i4
   by_cases hz : S.choice = 0
   ·rw [hz]
    have HTz := Lib.hid (HTs.out.trans (if_pos hz))
    clear hz
    go_wp2
    go_ret
    rw [HTz.out, HOs.out]
    exact ⟨rfl, _, P3.out, T3.out⟩
   ·have HTz := Lib.hid (HTs.out.trans (if_neg hz))
    have q0 : (S.choice != (0 : Int)) = true := by simpa using hz
    clear hz HTs
    generalize S.choice = ch at *
    go_wp2_with fail
    have C := Qb5 P3.out hpl.out (by omega) hN
    (with_reducible refine C.mono ?_)
    clear C
    rintro er w4 ⟨rfl, V4, P4, T4⟩
    have g3 : w4.cell? ⟨g, 3, none⟩ = some (.int .i64 ((((S.goTo (n.toNat)).chosen).leave).pl.at_ : Int)) ∧ w4.frozen? ⟨g, 3, none⟩ = false := ⟨by rw [P4.box.cell]; rfl, P4.box.frozen _⟩
    have hgl4 := P4.box.lt
    have P5 := P4.at__ (S.pl.at_ + 1)
    have T5 := (T3.out.trans T4).trans (P4.stays 3 (.int .i64 ((S.pl.at_ + 1 : Nat) : Int)))
    rw [Hwr.out] at P5 T5
    have P5 := Lib.hid P5
    have T5 := Lib.hid T5
    generalize (((S.goTo (n.toNat)).chosen).leave).pl.at_ = aa at *
    clear P4 T4 q0
    go_wp2
    go_ret
    rw [HTz.out, HOs.out]
    exact ⟨rfl, _, P5.out, T5.out⟩
 by_cases h9 : op = 9
 ·subst h9
  obtain ⟨-, -, -, -, -, -, h9r, -⟩ := Q2t Hi.out
  have ha := h9r rfl
  simp only at ha
  cases hah : S.ahead
  ·have HTs : Hid (T = { S with fin := 1, value := rg S.pl.regs a }) := Lib.hid (by rw [← HT.out]; unfold doS; rw [if_neg (by simp), if_neg (by simp), if_pos rfl, if_neg (by rw [hah]; simp)])
   have HOs : Hid (ob = false) := Lib.hid (by rw [← HO.out]; simp [Q2s, hah])
   rw [hah] at g12
   obtain ⟨a0, a1⟩ := Q05.1 ha
   have g6 : w1.cell? ⟨g, 6, none⟩ = some (.int .i64 S.fin) ∧ w1.frozen? ⟨g, 6, none⟩ = false := ⟨by rw [P.out.box.cell]; rfl, P.out.box.frozen _⟩
   have P2 := Lib.hid (P.out.fin_ 1)
   have T2 := Lib.hid ((Q0u.ofExt X.out).trans (P.out.stays 6 (.int .i64 1)))
   have BI2 := Lib.hid (BI.out.far (p := ⟨g, 6, none⟩) (Ne.symm hge) (.int .i64 1))
   clear hah
   go_upto_region 20 with fail
   generalize w1.setCell ⟨g, 6, none⟩ (.int .i64 1) = w2 at *
   clear g6 g12 g3 i0 i1 i2 i3 i4
   obtain ⟨kR, cR, Y, hvR, hbR, hkg⟩ := P2.out.regRow Hl.out
   obtain ⟨ra, -⟩ := Q2q hbR Hl.out ha
   replace ra : w2.cell? ⟨kR, a.toNat, none⟩ = some (.int .i64 (rg S.pl.regs a)) := ra
   have k0 : ∀ W, Ext w2 W → W.cell? ⟨g, 0, none⟩ = some (.slice (some ⟨kR, 0, none⟩) 10 cR) := fun _ h => h.kept (by rw [P2.out.box.cell, ← hvR]; rfl)
   have k1 : ∀ W, Ext w2 W → W.cell? ⟨e, 1, none⟩ = some (.int .i64 a) := fun _ h => h.kept (by rw [BI2.out.cell]; rfl)
   have ma : ∀ W, Ext w2 W → W.cell? ⟨kR, a.toNat, none⟩ = some (.int .i64 (rg S.pl.regs a)) := fun _ h => h.kept ra
   have hixr := Q3l
   refine Q0z 10 (by kernel_rfl) (by kernel_rfl) ?_
   simp only [List.take_succ_cons, List.take_zero, List.drop_succ_cons, List.drop_zero]
   repeat (first | (refine Q0r ?_ ?_ (fun wc hE => ?_) ?_; (decide); rfl; (focus (go_simp; done)); go_simp) | (refine Q0l ?_ ?_ ?_; (decide); (first | rfl | (focus (go_simp; done))); apply Exists.intro; refine ⟨fun wc hE => ?_, ?_⟩; (go_simp; exact rfl); go_simp) | (refine Q0s ?_ ?_ ?_; (decide); (first | rfl | (focus (go_simp; done))); apply Exists.intro; refine ⟨fun wc hE => ?_, ?_⟩; (go_simp; (first | fail)); go_simp) | (refine Q0p ?_ ?_ ?_; (decide); (focus (go_simp; done)); go_simp))
   refine Q0q ?_
   intro w3 hx
   have P3 := P2.out.extend hx
   have g7 : w3.cell? ⟨g, 7, none⟩ = some (.int .i64 S.value) ∧ w3.frozen? ⟨g, 7, none⟩ = false := ⟨by rw [P3.box.cell]; rfl, P3.box.frozen _⟩
   have hgl3 := P3.box.lt
   have P4 := Lib.hid (P3.value_ (rg S.pl.regs a))
   have T4 := Lib.hid ((T2.out.ext hx).trans (P3.stays 7 (.int .i64 (rg S.pl.regs a))))
   clear k0 k1 ma ra hx P3 hvR hbR
   go_wp2
   go_ret
   rw [HTs.out, HOs.out]
   exact ⟨rfl, _, P4.out, T4.out⟩
  ·have HTs : Hid (T = S.goTo (S.pl.at_ + 1)) := Lib.hid (by rw [← HT.out]; unfold doS; rw [if_neg (by simp), if_neg (by simp), if_pos rfl, if_pos hah])
   have HOs : Hid (ob = true) := Lib.hid (by rw [← HO.out]; simp [Q2s, hah])
   rw [hah] at g12
   have P2 := P.out.at__ (S.pl.at_ + 1)
   have T2 := (Q0u.ofExt X.out).trans (P.out.stays 3 (.int .i64 ((S.pl.at_ + 1 : Nat) : Int)))
   rw [show ((S.pl.at_ + 1 : Nat) : Int) = (S.pl.at_ : Int) + 1 by omega] at P2 T2
   have P2 := Lib.hid P2
   have T2 := Lib.hid T2
   clear hah
   go_wp2
   go_ret
   rw [HTs.out, HOs.out]
   exact ⟨rfl, _, P2.out, T2.out⟩
 by_cases h12 : op = 12
 ·subst h12
  have HTs : Hid (T = S.goTo (S.pl.at_ + 1)) := Lib.hid (by rw [← HT.out]; unfold doS; rw [if_neg (by simp), if_neg (by simp), if_neg (by simp), if_pos rfl])
  have HOs : Hid (ob = true) := Lib.hid (by rw [← HO.out]; simp [Q2s])
  have P2 := P.out.at__ (S.pl.at_ + 1)
  have T2 := (Q0u.ofExt X.out).trans (P.out.stays 3 (.int .i64 ((S.pl.at_ + 1 : Nat) : Int)))
  rw [show ((S.pl.at_ + 1 : Nat) : Int) = (S.pl.at_ : Int) + 1 by omega] at P2 T2
  have P2 := Lib.hid P2
  have T2 := Lib.hid T2
  go_wp2
  go_ret
  rw [HTs.out, HOs.out]
  exact ⟨rfl, _, P2.out, T2.out⟩
 have HOs : Hid (ob = false) := Lib.hid (by rw [← HO.out]; simp [Q2s, h9, h12])
 have q7 : (op == (7 : Int)) = false := by simpa using h7
 have q8 : (op == (8 : Int)) = false := by simpa using h8
 have q9 : (op == (9 : Int)) = false := by simpa using h9
 have q12 : (op == (12 : Int)) = false := by simpa using h12
 by_cases hw : op = 3 ∨ op = 4 ∨ op = 5 ∨ op = 6
 ·have HTs : Hid (T = Q2v p ⟨op, a, b, c, n⟩ S) := Lib.hid (by
   rw [← HT.out]; unfold doS
   rw [if_neg h7, if_neg h8, if_neg h9, if_neg h12, if_pos (by unfold Q10 Q18; rcases hw with h | h | h | h <;> simp [h])])
  have hpv : putV op = putN ⟨op, a, b, c, n⟩ := Qmp (i := ⟨op, a, b, c, n⟩) hw
  have Hw := Lib.hid hw
  rw [hpv]
  have hp0 : decide (0 ≤ putN ⟨op, a, b, c, n⟩) = true := by unfold putN; split <;> rfl
  clear h7 h8 h9 h12 hw hpv
  go_wp2_with fail
  have C := Qkg ⟨op, a, b, c, n⟩ Hw.out Hi.out Hfi.out Hr.out Hp.out Hm.out hN Hat.out hcl Hsn.out P.out
  simp only [insV] at C
  (with_reducible refine C.mono ?_)
  clear C
  rintro er w2 ⟨rfl, V2, P2, T2⟩
  have P2 := Lib.hid P2
  have T2 := Lib.hid ((Q0u.ofExt X.out).trans T2)
  go_wp2
  go_ret
  rw [HTs.out, HOs.out]
  exact ⟨rfl, _, P2.out, T2.out⟩
 ·have hw2 : op ≠ 3 ∧ op ≠ 4 ∧ op ≠ 5 ∧ op ≠ 6 ∧ op ≠ 7 ∧ op ≠ 8 ∧ op ≠ 9 := by omega
  have HTs : Hid (T = { S with seen := S.seen ++ Q2e S.pl.regs ⟨op, a, b, c, n⟩, pl := { S.pl with regs := Q1f S.pl.regs ⟨op, a, b, c, n⟩, at_ := S.pl.at_ + 1 } }) := Lib.hid (by
   rw [← HT.out]; unfold doS
   rw [if_neg h7, if_neg h8, if_neg h9, if_neg h12, if_neg (by unfold Q10 Q18; simp; omega)])
  have hpv : putV op = -1 := by unfold putV; rw [if_neg (by omega), if_neg (by omega)]
  rw [hpv]
  obtain ⟨kR, cR, Y, hvR, hbR, hkg⟩ := P.out.regRow Hl.out
  have HvR := Lib.hid hvR
  have k0 : ∀ W, Ext w1 W → W.cell? ⟨g, 0, none⟩ = some (.slice (some ⟨kR, 0, none⟩) 10 cR) := fun _ h => h.kept (by rw [P.out.box.cell, ← hvR]; rfl)
  have q0 : ∀ W, Ext w1 W → W.cell? ⟨e, 0, none⟩ = some (.int .i64 op) := fun _ h => h.kept i0
  have q1 : ∀ W, Ext w1 W → W.cell? ⟨e, 1, none⟩ = some (.int .i64 a) := fun _ h => h.kept i1
  have q2 : ∀ W, Ext w1 W → W.cell? ⟨e, 2, none⟩ = some (.int .i64 b) := fun _ h => h.kept i2
  have q3 : ∀ W, Ext w1 W → W.cell? ⟨e, 3, none⟩ = some (.int .i64 c) := fun _ h => h.kept i3
  have q4 : ∀ W, Ext w1 W → W.cell? ⟨e, 4, none⟩ = some (.int .i64 n) := fun _ h => h.kept i4
  have HbR := Lib.hid hbR
  have hkl1 := hbR.lt
  clear h7 h8 h9 h12 hw hpv hvR hbR
  go_upto_region 2 with fail
  clear i0 i1 i2 i3 i4 g12
  refine Q0z 6 (by kernel_rfl) (by kernel_rfl) ?_
  simp only [List.take_succ_cons, List.take_zero, List.drop_succ_cons, List.drop_zero]
  repeat (first | (refine Q0r ?_ ?_ (fun wc hE => ?_) ?_; (decide); rfl; (focus (go_simp; done)); go_simp) | (refine Q0l ?_ ?_ ?_; (decide); (first | rfl | (focus (go_simp; done))); apply Exists.intro; refine ⟨fun wc hE => ?_, ?_⟩; (go_simp; exact rfl); go_simp) | (refine Q0s ?_ ?_ ?_; (decide); (first | rfl | (focus (go_simp; done))); apply Exists.intro; refine ⟨fun wc hE => ?_, ?_⟩; (go_simp; (first | fail)); go_simp) | (refine Q0p ?_ ?_ ?_; (decide); (focus (go_simp; done)); go_simp))
  refine Q0q ?_
  intro w2 hx
  have HW2 := Lib.hid hw2
  clear k0 q0 q1 q2 q3 q4 hw2 q7 q8 q9 q12 g3
  go_wp2_with fail
  have C := Qlt kR Y cR 2 S.pl.regs p ⟨op, a, b, c, n⟩ Hl.out Hm.out.pl.r64 Hi.out HW2.out w2 (HbR.out.ext hx)
  simp only [insV] at C
  (with_reducible refine C.mono ?_)
  clear C
  rintro er w3 ⟨ao, cap, rfl, hsrc, hgr, hbR3⟩
  have P2 := P.out.extend hx
  have hgr' : w2.grownBy w3 V.vR.ownBlock := by rw [HvR.out]; exact hgr
  have hrow := P2.core.fam.at_ (Q6s V S)
  rw [HvR.out] at hrow
  have hlen : (Q1f S.pl.regs ⟨op, a, b, c, n⟩).length = S.pl.regs.length := Q9p _ _
  have hnew : w3.ownsRow wB.heap.size 2 1 V.vR (Q1f S.pl.regs ⟨op, a, b, c, n⟩).length ((Q1f S.pl.regs ⟨op, a, b, c, n⟩).map (Value.int .i64)) := by
   have := Qn6 (l' := Q1f S.pl.regs ⟨op, a, b, c, n⟩) (by rw [Hl.out] at hrow ⊢; exact hrow) (HbR.out.ext hx) hlen hbR3
   rw [HvR.out]
   rw [hlen, Hl.out] at this ⊢
   exact this
  have P3 := P2.regs hgr' hnew
  have T3 := Lib.hid (((Q0u.ofExt X.out).ext hx).trans (P2.regsStays hgr'))
  have Hsrc := Lib.hid hsrc
  have hml : (Q2e S.pl.regs ⟨op, a, b, c, n⟩).length ≤ 1 := by unfold Q2e; split <;> simp
  obtain ⟨ov, ovc, hvS⟩ := Q13 P3.core.sn
  have HvS := Lib.hid hvS
  have g9 : w3.cell? ⟨g, 9, none⟩ = some (.slice ov S.seen.length ovc) := by rw [P3.box.cell, ← hvS]; rfl
  have SN := P3.core.sn
  rw [hvS] at SN
  have SN := Lib.hid SN
  have hBs := P3.core.ext.size
  have hgl3 := P3.box.lt
  have P3 := Lib.hid P3
  obtain ⟨i0', hi0', hz0', hz1', hz2'⟩ := info_parts Qgp
  generalize hps : Q2e S.pl.regs ⟨op, a, b, c, n⟩ = ps at *
  generalize hpr : Q1f S.pl.regs ⟨op, a, b, c, n⟩ = pr at *
  clear hx hsrc hgr hbR3 P2 hgr' hrow hnew hvS hlen hps hpr
  have hsn1 := Hsn.out
  go_wp2_with (at_builtin; refine Q2h _ rfl _ _ 34 rfl wB.heap.size 98 i0' _ 3 24 Try.underlying34 hi0' hz0' hz1' hz2' rfl (by decide) _ _ _ rfl SN.out ao ps.length cap (ps.flatMap Q4z) rfl ?c1 ?c3 ?c4 ?c5 ?_)
  case c1 => exact Hsrc.out
  case c3 => unfold maxLen; omega
  case c4 => omega
  case c5 => exact hBs
  intro vS' w4 hown hgrow hat4
  obtain ⟨ow, owc, rfl⟩ := Q13 hown
  have hgrow : w3.grownBy w4 (Value.slice ov S.seen.length ovc).ownBlock := hgrow
  rw [← HvS.out] at hgrow
  have hb := P3.out.box.grown hgrow (Q09 P3.out.core.sn P3.out.box (by decide))
  have p9 : w4.cell? ⟨g, 9, none⟩ = some (.slice ov S.seen.length ovc) ∧ w4.frozen? ⟨g, 9, none⟩ = false := ⟨by rw [hb.cell, ← HvS.out]; rfl, hb.frozen 9⟩
  have p3 : w4.cell? ⟨g, 3, none⟩ = some (.int .i64 (S.pl.at_ : Int)) ∧ w4.frozen? ⟨g, 3, none⟩ = false := ⟨by rw [hb.cell]; rfl, hb.frozen 3⟩
  have hgl4 := hb.lt
  have P4 := P3.out.show_ (s := S.seen ++ ps) (u := .slice ow (S.seen.length + ps.length) owc) hgrow (by simpa using hown)
  have T4 := T3.out.trans (P3.out.showStays hgrow (.slice ow (S.seen.length + ps.length) owc))
  have P5 := P4.at__ (S.pl.at_ + 1)
  have T5 := T4.trans (P4.stays 3 (.int .i64 ((S.pl.at_ + 1 : Nat) : Int)))
  rw [show ((S.pl.at_ + 1 : Nat) : Int) = (S.pl.at_ : Int) + 1 by omega] at P5 T5
  have P5 := Lib.hid P5
  have T5 := Lib.hid T5
  clear hown hgrow hat4 hb g9 P4 T4
  go_wp2
  go_ret
  rw [HTs.out, HOs.out]
  exact ⟨rfl, _, P5.out, T5.out⟩
end Go.Proofs.Yteiknefajlocoaa
