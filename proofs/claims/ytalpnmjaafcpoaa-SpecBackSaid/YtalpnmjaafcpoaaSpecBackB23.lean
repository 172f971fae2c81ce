/- Laid together from: Seq4, Seq5, Seq6, Ref3d. -/
import Derived.Test.YtalpnmjaafcpoaaSpecBackB22
import Derived.Test.YtalpnmjaafcpoaaSpecBackB9
import Derived.Test.YtalpnmjaafcpoaaSpecBackB20
import Derived.Test.YtalpnmjaafcpoaaSpecBackB21

namespace Go.Proofs.Ytalpnmjaafcpoaa
open Go.ChangeShapes Go.WideShapes Go.ChangeAt Go.RowKit
set_option linter.unusedVariables false
set_option linter.unusedSimpArgs false
theorem Q7l {p : Q00} {i : LIns} {M : Mach} (hw : i.op = 3 ∨ i.op = 4 ∨ i.op = 5 ∨ i.op = 6) (hin : Q1c p i (Q0p M.regs i) = true) :
  Q06 p i M = { Q2v p i { M with steps := M.steps + 1, seen := M.seen ++ [⟨1, M.at_, 0⟩] } with at_ := M.at_ + 1 } := by
 unfold Q2v
 by_cases h : i.op = 4 ∨ i.op = 6
 ·have hp : Q08 i = true := by unfold Q08; rcases h with h | h <;> simp [h]
  have hk : putN i = 1 := by unfold putN; rw [hp]; rfl
  rw [Qab h hin]
  simp only [hp, if_true, hk]
 ·have h2 : i.op = 3 ∨ i.op = 5 := by omega
  have hp : Q08 i = false := by unfold Q08; rcases h2 with h | h <;> simp [h]
  have hk : putN i = 0 := by unfold putN; rw [hp]; rfl
  rw [Qaa h2 hin]
  simp only [hp, Bool.false_eq_true, if_false, hk]
theorem MOk.same {p : Q00} {M M' : Mach} (h : MOk p M) (h1 : M'.regs = M.regs) (h2 : M'.words = M.words) : MOk p M' := ⟨by rw [h1]; exact h.len, by rw [h1]; exact h.r64, by rw [h2]; exact h.wlen, by rw [h2]; exact h.w64⟩
def Q78 (p : Q00) (i : LIns) (wB : World) (g : Nat) (vR vC vM vB vW : Value) (M : Mach) (e : Ending) (w' : World) : Prop :=
 e = .returned (.tuple #[]) ∧ ∃ vS', MSt w' wB.heap.size g vR vC vM vB vS' vW (Q0n p) (Q06 p i M) ∧ Ext wB w'
set_option maxRecDepth 100000 in
set_option maxHeartbeats 8000000 in
theorem Q64 (p : Q00) (i : LIns) {wB : World} {g : Nat} {vR vC vM vB vS vW : Value} {M : Mach} (hi : p.code[M.at_]? = some i) (hh : Q23 p = true) (hfi : i.fits) (hok : MOk p M) (hsn : M.seen.length ≤ 900000) (hst : M.steps ≤ 40000) (w : World) (hp : Q1v wB (.agg #[vR, vC]) p) (hbx : Ext wB w) (h : MSt w wB.heap.size g vR vC vM vB vS vW (Q0n p) M) :
  Calls Try.prog 31 #[.pointer (some ⟨g, 0, none⟩)] w (Q78 p i wB g vR vC vM vB vW M) := by
 obtain ⟨hr, hl1, hl2, hall⟩ := Q2z hh
 have hat : M.at_ < p.code.length := (List.getElem?_eq_some_iff.1 hi).1
 have hp0 := hp
 have hpi : p.code.getD M.at_ default = i := by simp [List.getD_eq_getElem?_getD, hi]
 have hiok : Q05 p 10 i = true := by rw [← hpi]; exact hall _ (Q1f hat)
 obtain ⟨v1, v2, hv, hR0, -⟩ := hp0
 simp only [Value.agg.injEq, Array.mk.injEq, List.cons.injEq, and_true] at hv
 obtain ⟨rfl, -⟩ := hv
 have HR : Hid (∀ W, Ext wB W → Q2u W vR p.regs) := Lib.hid fun W hW => hR0.ext hW
 clear hR0
 obtain ⟨v1, v2, hv, hR, ⟨-, oc, capc, bc, oo, rfl, hc1, hc2, hrow⟩⟩ := hp.ext hbx
 simp only [Value.agg.injEq, Array.mk.injEq, List.cons.injEq, and_true] at hv
 obtain ⟨rfl, rfl⟩ := hv
 have hix := Q6r (cap := capc) hrow.at_
 obtain ⟨e0, e1, e2, e3, e4⟩ := hrow.ins M.at_ hat
 rw [hpi] at e0 e1 e2 e3 e4
 obtain ⟨-, g1, -, -, -, -, -, -, g18, -⟩ := h.cells
 have hgl := h.box.lt
 have H := Lib.hid h
 have HB0 := Lib.hid hbx
 have Hr := Lib.hid hr
 have Hmok := Lib.hid hok
 have Hiok := Lib.hid hiok
 have Hfi := Lib.hid hfi
 have Hsn := Lib.hid hsn
 have HSP : Hid (∀ vS' w', MSt w' wB.heap.size g vR (.slice oc p.code.length capc) vM vB vS' vW (Q0n p) (Q06 p i M) → Ext wB w' → Q78 p i wB g vR (.slice oc p.code.length capc) vM vB vW M (.returned (.tuple #[])) w') := Lib.hid fun vS' w' h1 h2 => ⟨rfl, vS', h1, h2⟩
 generalize Q78 p i wB g vR (.slice oc p.code.length capc) vM vB vW M = SP at *
 clear hrow hR hr hall hok hiok hfi hpi hi hh h hbx
 obtain ⟨op, a, b, c, n⟩ := i
 simp only at e0 e1 e2 e3 e4
 go_enter Try.func31, Try.ntmps31
 go_upto_region 0 with fail
 have k1 : ∀ W, Ext w W → W.cell? ⟨g, 1, none⟩ = some (.slice oc p.code.length capc) := fun _ h => h.kept g1.1
 have k18 : ∀ W, Ext w W → W.cell? ⟨g, 18, none⟩ = some (.int .i64 (M.at_ : Int)) := fun _ h => h.kept g18.1
 have m0 : ∀ W, Ext w W → W.cell? ⟨bc, oo + M.at_ * 5, none⟩ = some (.int .i64 op) := fun _ h => h.kept e0
 have m1 : ∀ W, Ext w W → W.cell? ⟨bc, oo + M.at_ * 5 + 1, none⟩ = some (.int .i64 a) := fun _ h => h.kept e1
 have m2 : ∀ W, Ext w W → W.cell? ⟨bc, oo + M.at_ * 5 + 2, none⟩ = some (.int .i64 b) := fun _ h => h.kept e2
 have m3 : ∀ W, Ext w W → W.cell? ⟨bc, oo + M.at_ * 5 + 3, none⟩ = some (.int .i64 c) := fun _ h => h.kept e3
 have m4 : ∀ W, Ext w W → W.cell? ⟨bc, oo + M.at_ * 5 + 4, none⟩ = some (.int .i64 n) := fun _ h => h.kept e4
 refine Q3n 13 12 (some 2) (by decide) rfl (by kernel_rfl) (by kernel_rfl) (fun k => .pointer (some ⟨k, 0, none⟩)) 71 #[.int .i64 0, .int .i64 0, .int .i64 0, .int .i64 0, .int .i64 0] ?_
 simp only [List.take_succ_cons, List.take_zero, List.drop_succ_cons, List.drop_zero]
 repeat (first | (refine Q0g ?_ ?_ (fun wc hE => ?_) ?_; (decide); rfl; (focus (go_simp; done)); go_simp) | (refine Q0a ?_ ?_ ?_; (decide); (first | rfl | (focus (go_simp; done))); apply Exists.intro; refine ⟨fun wc hE => ?_, ?_⟩; (go_simp; exact rfl); go_simp) | (refine Q0h ?_ ?_ ?_; (decide); (first | rfl | (focus (go_simp; done))); apply Exists.intro; refine ⟨fun wc hE => ?_, ?_⟩; (go_simp; (first | fail)); go_simp) | (refine Q0e ?_ ?_ ?_; (decide); (focus (go_simp; done)); go_simp))
 refine Q0f ?_
 intro k wx hk hB hx
 clear k1 k18 m0 m1 m2 m3 m4 e0 e1 e2 e3 e4 g1 g18
 refine Q63 hB #[.int .i64 op, .int .i64 a, .int .i64 b, .int .i64 c, .int .i64 n] rfl rfl rfl (by kernel_rfl) (by simp [Value.oneCell']) ?_
 have bI := hB.stored #[.int .i64 op, .int .i64 a, .int .i64 b, .int .i64 c, .int .i64 n] rfl
 have hx2 := hx.setCells (#[.int .i64 op, .int .i64 a, .int .i64 b, .int .i64 c, .int .i64 n] : Array Value).toList hk 0
 generalize wx.setCells k 0 (#[.int .i64 op, .int .i64 a, .int .i64 b, .int .i64 c, .int .i64 n] : Array Value).toList = w1 at *
 have X := Lib.hid hx2
 have P := Lib.hid (H.out.ext hx2)
 have hks : some k ≠ vS.ownBlock := by
  intro e
  have := (H.out.sn.lt k e.symm).2
  omega
 have hkg : k ≠ g := by omega
 have Hks := Lib.hid hks
 obtain ⟨-, -, -, -, g4, -, -, -, g18, -⟩ := P.out.cells
 have hgl := P.out.box.lt
 have hkl := bI.lt
 clear hx hx2 hB hk hks
 go_wp2_with fail
 have P2 := P.out.steps_ (M.steps + 1)
 rw [show ((M.steps + 1 : Nat) : Int) = (M.steps : Int) + 1 by omega] at P2
 have bI := bI.far (p := ⟨g, 4, none⟩) hkg (.int .i64 ((M.steps : Int) + 1))
 have HB2 : Hid (Ext wB (w1.setCell ⟨g, 4, none⟩ (.int .i64 ((M.steps : Int) + 1)))) := Lib.hid ((HB0.out.trans X.out).setCell H.out.hg _)
 generalize w1.setCell ⟨g, 4, none⟩ (.int .i64 ((M.steps : Int) + 1)) = w2 at *
 (with_reducible refine (Q2k w2 P2 1 M.at_ 0 (by simpa using Nat.le_trans Hsn.out (by omega))).mono ?_)
 rintro e w3 ⟨rfl, vS2, P3, T3, N3⟩
 have bI := bI.turn T3 (by
  rintro (h1 | h1)
  ·exact hkg h1
  ·exact Hks.out h1.symm)
 have HB : Hid (Ext wB w3) := Lib.hid (Below.trans HB2.out (P2.below T3))
 have i0 : w3.cell? ⟨k, 0, none⟩ = some (.int .i64 op) := by rw [bI.cell]; rfl
 have i1 : w3.cell? ⟨k, 1, none⟩ = some (.int .i64 a) := by rw [bI.cell]; rfl
 have i2 : w3.cell? ⟨k, 2, none⟩ = some (.int .i64 b) := by rw [bI.cell]; rfl
 have i3 : w3.cell? ⟨k, 3, none⟩ = some (.int .i64 c) := by rw [bI.cell]; rfl
 have i4 : w3.cell? ⟨k, 4, none⟩ = some (.int .i64 n) := by rw [bI.cell]; rfl
 obtain ⟨-, -, g2, g3, -, -, -, -, g18, -⟩ := P3.cells
 have hgl := P3.box.lt
 have hkl := bI.lt
 simp only at g2 g3 g18
 have Hreg : Hid (∀ a, okIn 10 a = true → w3.cell? ⟨g, 7 + a.toNat, none⟩ = some (.int .i64 (rg M.regs a)) ∧ w3.frozen? ⟨g, 7 + a.toNat, none⟩ = false) := Lib.hid fun a ha => P3.reg ha
 have PP := Lib.hid P3
 clear P3 T3 N3 P2 HB2 P bI g4
 by_cases h7 : op = 7
 ·subst h7
  have hn := (Q2p Hiok.out).2.2.2.2.2.2.2.2.2.1 (.inl rfl)
  simp only at hn
  have Hn : Hid (n = ((n.toNat : Nat) : Int)) := Lib.hid (by omega)
  have Hs : Hid (Q06 p ⟨7, a, b, c, n⟩ M = { M with at_ := n.toNat, steps := M.steps + 1, seen := M.seen ++ [⟨1, M.at_, 0⟩] }) := Lib.hid rfl
  clear hn
  go_wp2
  try refine bodyPost_end (results_none rfl _ _ _) rfl ?_
  refine HSP.out vS2 _ ?_ (HB.out.setCell PP.out.hg _)
  have := PP.out.at__ n.toNat
  rw [← Hn.out] at this
  rw [Hs.out]
  exact this
 by_cases h8 : op = 8
 ·subst h8
  have hn := (Q2p Hiok.out).2.2.2.2.2.2.2.2.2.1 (.inr rfl)
  obtain ⟨ha, hb, -, -⟩ := (Q2p Hiok.out).2.2.2.2.2.1 rfl
  simp only at hn ha hb
  have Hn : Hid (n = ((n.toNat : Nat) : Int)) := Lib.hid (by omega)
  obtain ⟨a0, a1⟩ := Q0u.1 ha
  obtain ⟨b0, b1⟩ := Q0u.1 hb
  obtain ⟨ra, -⟩ := Hreg.out a ha
  obtain ⟨rb, -⟩ := Hreg.out b hb
  have k1 : ∀ W, Ext w3 W → W.cell? ⟨k, 1, none⟩ = some (.int .i64 a) := fun _ h => h.kept i1
  have k2 : ∀ W, Ext w3 W → W.cell? ⟨k, 2, none⟩ = some (.int .i64 b) := fun _ h => h.kept i2
  have k3 : ∀ W, Ext w3 W → W.cell? ⟨k, 3, none⟩ = some (.int .i64 c) := fun _ h => h.kept i3
  have ma : ∀ W, Ext w3 W → W.cell? ⟨g, 7 + a.toNat, none⟩ = some (.int .i64 (rg M.regs a)) := fun _ h => h.kept ra
  have mb : ∀ W, Ext w3 W → W.cell? ⟨g, 7 + b.toNat, none⟩ = some (.int .i64 (rg M.regs b)) := fun _ h => h.kept rb
  have hixr := Q1s
  clear hn i1 i2 i3 ra rb g2 g3
  cases hh : Q42 c (rg M.regs a) (rg M.regs b)
  ·have Hs : Hid (Q06 p ⟨8, a, b, c, n⟩ M = { M with at_ := M.at_ + 1, steps := M.steps + 1, seen := M.seen ++ [⟨1, M.at_, 0⟩] }) := Lib.hid (by
    unfold Q06
    simp only
    rw [if_neg (by omega), if_pos trivial, if_neg (by rw [hh]; simp)])
   have C8 : ∀ W, Calls Try.prog 51 #[.int .i64 c, .int .i64 (rg M.regs a), .int .i64 (rg M.regs b)] W fun e w' => e = .returned (.bool false) ∧ Ext W w' := fun W => by
    have := Q5e c (rg M.regs a) (rg M.regs b) W
    rw [hh] at this
    exact this
   have C8 := Lib.hid C8
   clear hh
   go_upto_region 8 with fail
   refine Q0t 19 (by kernel_rfl) (by kernel_rfl) ?_
   simp only [List.take_succ_cons, List.take_zero, List.drop_succ_cons, List.drop_zero]
   repeat (first | (refine Q0g ?_ ?_ (fun wc hE => ?_) ?_; (decide); rfl; (focus (go_simp; done)); go_simp) | (refine Q0a ?_ ?_ ?_; (decide); (first | rfl | (focus (go_simp; done))); apply Exists.intro; refine ⟨fun wc hE => ?_, ?_⟩; (go_simp; exact rfl); go_simp) | (refine Q0h ?_ ?_ ?_; (decide); (first | rfl | (focus (go_simp; done))); apply Exists.intro; refine ⟨fun wc hE => ?_, ?_⟩; (go_simp; (first | (with_reducible exact Q1t (C8.out _)))); go_simp) | (refine Q0e ?_ ?_ ?_; (decide); (focus (go_simp; done)); go_simp))
   refine Q0f ?_
   intro wx hx
   have i4 := hx.kept i4
   have g18 := Q07 hx g18
   have HB := Lib.hid (HB.out.trans hx)
   have PP := Lib.hid (PP.out.ext hx)
   clear hx k1 k2 k3 ma mb
   go_wp2
   try refine bodyPost_end (results_none rfl _ _ _) rfl ?_
   refine HSP.out vS2 _ ?_ (HB.out.setCell PP.out.hg _)
   have := PP.out.at__ (M.at_ + 1)
   rw [show ((M.at_ + 1 : Nat) : Int) = (M.at_ : Int) + 1 by omega] at this
   rw [Hs.out]
   exact this
  ·have Hs : Hid (Q06 p ⟨8, a, b, c, n⟩ M = { M with at_ := n.toNat, steps := M.steps + 1, seen := M.seen ++ [⟨1, M.at_, 0⟩] }) := Lib.hid (by
    unfold Q06
    simp only
    rw [if_neg (by omega), if_pos trivial, if_pos hh])
   have C8 : ∀ W, Calls Try.prog 51 #[.int .i64 c, .int .i64 (rg M.regs a), .int .i64 (rg M.regs b)] W fun e w' => e = .returned (.bool true) ∧ Ext W w' := fun W => by
    have := Q5e c (rg M.regs a) (rg M.regs b) W
    rw [hh] at this
    exact this
   have C8 := Lib.hid C8
   clear hh
   go_upto_region 8 with fail
   refine Q0t 19 (by kernel_rfl) (by kernel_rfl) ?_
   simp only [List.take_succ_cons, List.take_zero, List.drop_succ_cons, List.drop_zero]
   repeat (first | (refine Q0g ?_ ?_ (fun wc hE => ?_) ?_; (decide); rfl; (focus (go_simp; done)); go_simp) | (refine Q0a ?_ ?_ ?_; (decide); (first | rfl | (focus (go_simp; done))); apply Exists.intro; refine ⟨fun wc hE => ?_, ?_⟩; (go_simp; exact rfl); go_simp) | (refine Q0h ?_ ?_ ?_; (decide); (first | rfl | (focus (go_simp; done))); apply Exists.intro; refine ⟨fun wc hE => ?_, ?_⟩; (go_simp; (first | (with_reducible exact Q1t (C8.out _)))); go_simp) | (refine Q0e ?_ ?_ ?_; (decide); (focus (go_simp; done)); go_simp))
   refine Q0f ?_
   intro wx hx
   have i4 := hx.kept i4
   have g18 := Q07 hx g18
   have HB := Lib.hid (HB.out.trans hx)
   have PP := Lib.hid (PP.out.ext hx)
   clear hx k1 k2 k3 ma mb
   go_wp2
   try refine bodyPost_end (results_none rfl _ _ _) rfl ?_
   refine HSP.out vS2 _ ?_ (HB.out.setCell PP.out.hg _)
   have := PP.out.at__ (n.toNat)
   rw [← Hn.out] at this
   rw [Hs.out]
   exact this
 by_cases h9 : op = 9
 ·subst h9
  have ha := (Q2p Hiok.out).2.2.2.2.2.2.1 rfl
  simp only at ha
  obtain ⟨a0, a1⟩ := Q0u.1 ha
  obtain ⟨ra, -⟩ := Hreg.out a ha
  have hixr := Q1s
  have Hs : Hid (Q06 p ⟨9, a, b, c, n⟩ M = { M with at_ := M.at_ + 1, steps := M.steps + 1, seen := M.seen ++ [⟨1, M.at_, 0⟩], fin := 1, value := rg M.regs a }) := Lib.hid rfl
  clear i2 i3 i4
  go_upto_region 11 with fail
  go_region
  go_wp2
  try refine bodyPost_end (results_none rfl _ _ _) rfl ?_
  refine HSP.out vS2 _ ?_ (Ext.drew (((HB.out.setCell PP.out.hg _).setCell PP.out.hg _).setCell PP.out.hg _))
  have := (((PP.out.fin_ 1).value_ (rg M.regs a)).at__ (M.at_ + 1)).ext (Ext.drew (Ext.refl _))
  rw [show ((M.at_ + 1 : Nat) : Int) = (M.at_ : Int) + 1 by omega] at this
  rw [Hs.out]
  exact this
 by_cases hw : op = 4 ∨ op = 6
 ·have Hw : Hid (op = 3 ∨ op = 4 ∨ op = 5 ∨ op = 6) := Lib.hid (by omega)
  have hb7 : (op == (7 : Int)) = false := by simp; omega
  have hb8 : (op == (8 : Int)) = false := by simp; omega
  have hb9 : (op == (9 : Int)) = false := by simp; omega
  have CP := Q3s ⟨op, a, b, c, n⟩ w3
  rw [show Q08 ⟨op, a, b, c, n⟩ = true by unfold Q08; simp only; rcases hw with h | h <;> simp [h]] at CP
  simp only [insV] at CP
  go_wp2_with fail
  (with_reducible refine CP.mono ?_)
  clear CP
  rintro e w4 ⟨rfl, hx⟩
  clear g2 g3 Hreg
  have HB := Lib.hid (HB.out.trans hx)
  have PP := Lib.hid (PP.out.ext hx)
  have i0 := hx.kept i0
  have i1 := hx.kept i1
  have i2 := hx.kept i2
  have i3 := hx.kept i3
  have i4 := hx.kept i4
  have g18 := Q07 hx g18
  clear hx
  go_wp2_with fail
  have CW := Q50 p ⟨op, a, b, c, n⟩ Hw.out Hiok.out Hr.out (Hmok.out.same (M' := { M with steps := M.steps + 1, seen := M.seen ++ [⟨1, M.at_, 0⟩] }) rfl rfl) (by simp; omega) w4 (HR.out _ HB.out) PP.out
  unfold Q49 at CW
  simp only [insV] at CW
  (with_reducible refine CW.mono ?_)
  clear CW
  rintro e w6 hpost
  cases hin : Q1c p ⟨op, a, b, c, n⟩ (Q0p M.regs ⟨op, a, b, c, n⟩)
  ·have hpost : e = .returned (.bool false) ∧ Ext w4 w6 := by
    rcases hpost with ⟨h1, -⟩ | ⟨-, h2⟩
    ·try simp only at h1
     rw [hin] at h1; cases h1
    ·exact h2
   obtain ⟨rfl, hx⟩ := hpost
   have Hs := Lib.hid (Q7m (M := M) Hw.out hin)
   have HB := Lib.hid (HB.out.trans hx)
   have PP := Lib.hid (PP.out.ext hx)
   obtain ⟨-, -, g2, -, -, -, -, -, g18, -⟩ := PP.out.cells
   have hgl := PP.out.box.lt
   simp only at g2 g18
   clear hx hin
   go_wp2
   try refine bodyPost_end (results_none rfl _ _ _) rfl ?_
   refine HSP.out vS2 _ ?_ ((HB.out.setCell PP.out.hg _).setCell PP.out.hg _)
   have := (PP.out.fin_ 2).at__ (M.at_ + 1)
   rw [show ((M.at_ + 1 : Nat) : Int) = (M.at_ : Int) + 1 by omega] at this
   rw [Hs.out]
   exact this
  ·have hpost : e = .returned (.bool true) ∧ ∃ vS', MSt w6 wB.heap.size g vR (.slice oc p.code.length capc) vM vB vS' vW (Q0n p) (Q2v p ⟨op, a, b, c, n⟩ { M with steps := M.steps + 1, seen := M.seen ++ [⟨1, M.at_, 0⟩] }) ∧ Below wB.heap.size w4 w6 := by
    rcases hpost with ⟨-, h2⟩ | ⟨h1, -⟩
    ·exact h2
    ·try simp only at h1
     rw [hin] at h1; cases h1
   obtain ⟨rfl, vS3, P5, hbb⟩ := hpost
   have Hs := Lib.hid (Q7l (M := M) Hw.out hin)
   have HB : Hid (Ext wB w6) := Lib.hid (Below.trans HB.out hbb)
   have PP := Lib.hid P5
   obtain ⟨-, -, g2, -, -, -, -, -, g18, -⟩ := P5.cells
   have hgl := P5.box.lt
   clear P5 hbb hin
   generalize Q2v p ⟨op, a, b, c, n⟩ { M with steps := M.steps + 1, seen := M.seen ++ [⟨1, M.at_, 0⟩] } = MW at *
   go_wp2
   try refine bodyPost_end (results_none rfl _ _ _) rfl ?_
   refine HSP.out vS3 _ ?_ (HB.out.setCell PP.out.hg _)
   have := PP.out.at__ (M.at_ + 1)
   rw [show ((M.at_ + 1 : Nat) : Int) = (M.at_ : Int) + 1 by omega] at this
   rw [Hs.out]
   exact this
 by_cases hw : op = 3 ∨ op = 5
 ·have Hw : Hid (op = 3 ∨ op = 4 ∨ op = 5 ∨ op = 6) := Lib.hid (by omega)
  have hb7 : (op == (7 : Int)) = false := by simp; omega
  have hb8 : (op == (8 : Int)) = false := by simp; omega
  have hb9 : (op == (9 : Int)) = false := by simp; omega
  have CP := Q3s ⟨op, a, b, c, n⟩ w3
  rw [show Q08 ⟨op, a, b, c, n⟩ = false by unfold Q08; simp only; simp; omega] at CP
  simp only [insV] at CP
  go_wp2_with fail
  (with_reducible refine CP.mono ?_)
  clear CP
  rintro e w4 ⟨rfl, hx⟩
  clear g2 g3 Hreg
  have HB := Lib.hid (HB.out.trans hx)
  have PP := Lib.hid (PP.out.ext hx)
  have i0 := hx.kept i0
  have i1 := hx.kept i1
  have i2 := hx.kept i2
  have i3 := hx.kept i3
  have i4 := hx.kept i4
  have g18 := Q07 hx g18
  clear hx
  go_wp2_with fail
  have CT := Q51 ⟨op, a, b, c, n⟩ w4
  rw [show Q14 ⟨op, a, b, c, n⟩ = true by unfold Q14; simp only; rcases hw with h | h <;> simp [h]] at CT
  simp only [insV] at CT
  (with_reducible refine CT.mono ?_)
  clear CT
  rintro e w5 ⟨rfl, hx⟩
  have HB := Lib.hid (HB.out.trans hx)
  have PP := Lib.hid (PP.out.ext hx)
  have i0 := hx.kept i0
  have i1 := hx.kept i1
  have i2 := hx.kept i2
  have i3 := hx.kept i3
  have i4 := hx.kept i4
  have g18 := Q07 hx g18
  clear hx
  go_wp2_with fail
  have CW := Q50 p ⟨op, a, b, c, n⟩ Hw.out Hiok.out Hr.out (Hmok.out.same (M' := { M with steps := M.steps + 1, seen := M.seen ++ [⟨1, M.at_, 0⟩] }) rfl rfl) (by simp; omega) w5 (HR.out _ HB.out) PP.out
  unfold Q49 at CW
  simp only [insV] at CW
  (with_reducible refine CW.mono ?_)
  clear CW
  rintro e w6 hpost
  cases hin : Q1c p ⟨op, a, b, c, n⟩ (Q0p M.regs ⟨op, a, b, c, n⟩)
  ·have hpost : e = .returned (.bool false) ∧ Ext w5 w6 := by
    rcases hpost with ⟨h1, -⟩ | ⟨-, h2⟩
    ·try simp only at h1
     rw [hin] at h1; cases h1
    ·exact h2
   obtain ⟨rfl, hx⟩ := hpost
   have Hs := Lib.hid (Q7m (M := M) Hw.out hin)
   have HB := Lib.hid (HB.out.trans hx)
   have PP := Lib.hid (PP.out.ext hx)
   obtain ⟨-, -, g2, -, -, -, -, -, g18, -⟩ := PP.out.cells
   have hgl := PP.out.box.lt
   simp only at g2 g18
   clear hx hin
   go_wp2
   try refine bodyPost_end (results_none rfl _ _ _) rfl ?_
   refine HSP.out vS2 _ ?_ ((HB.out.setCell PP.out.hg _).setCell PP.out.hg _)
   have := (PP.out.fin_ 2).at__ (M.at_ + 1)
   rw [show ((M.at_ + 1 : Nat) : Int) = (M.at_ : Int) + 1 by omega] at this
   rw [Hs.out]
   exact this
  ·have hpost : e = .returned (.bool true) ∧ ∃ vS', MSt w6 wB.heap.size g vR (.slice oc p.code.length capc) vM vB vS' vW (Q0n p) (Q2v p ⟨op, a, b, c, n⟩ { M with steps := M.steps + 1, seen := M.seen ++ [⟨1, M.at_, 0⟩] }) ∧ Below wB.heap.size w5 w6 := by
    rcases hpost with ⟨-, h2⟩ | ⟨h1, -⟩
    ·exact h2
    ·try simp only at h1
     rw [hin] at h1; cases h1
   obtain ⟨rfl, vS3, P5, hbb⟩ := hpost
   have Hs := Lib.hid (Q7l (M := M) Hw.out hin)
   have HB : Hid (Ext wB w6) := Lib.hid (Below.trans HB.out hbb)
   have PP := Lib.hid P5
   obtain ⟨-, -, g2, -, -, -, -, -, g18, -⟩ := P5.cells
   have hgl := P5.box.lt
   clear P5 hbb hin
   generalize Q2v p ⟨op, a, b, c, n⟩ { M with steps := M.steps + 1, seen := M.seen ++ [⟨1, M.at_, 0⟩] } = MW at *
   go_wp2
   try refine bodyPost_end (results_none rfl _ _ _) rfl ?_
   refine HSP.out vS3 _ ?_ (HB.out.setCell PP.out.hg _)
   have := PP.out.at__ (M.at_ + 1)
   rw [show ((M.at_ + 1 : Nat) : Int) = (M.at_ : Int) + 1 by omega] at this
   rw [Hs.out]
   exact this
 have hplain : op ≠ 3 ∧ op ≠ 4 ∧ op ≠ 5 ∧ op ≠ 6 ∧ op ≠ 7 ∧ op ≠ 8 ∧ op ≠ 9 := ⟨by omega, by omega, by omega, by omega, h7, h8, h9⟩
 have hb7 : (op == (7 : Int)) = false := by simp; omega
 have hb8 : (op == (8 : Int)) = false := by simp; omega
 have hb9 : (op == (9 : Int)) = false := by simp; omega
 have Hs := Lib.hid (Qac (p := p) (M := M) (i := ⟨op, a, b, c, n⟩) hplain)
 have Hpl := Lib.hid hplain
 have CP := Q3s ⟨op, a, b, c, n⟩ w3
 rw [show Q08 ⟨op, a, b, c, n⟩ = false by unfold Q08; simp only; simp; omega] at CP
 simp only [insV] at CP
 clear hplain
 go_wp2_with fail
 (with_reducible refine CP.mono ?_)
 clear CP
 rintro e w4 ⟨rfl, hx⟩
 clear g2 g3 Hreg
 have HB := Lib.hid (HB.out.trans hx)
 have PP := Lib.hid (PP.out.ext hx)
 have i0 := hx.kept i0
 have i1 := hx.kept i1
 have i2 := hx.kept i2
 have i3 := hx.kept i3
 have i4 := hx.kept i4
 have g18 := Q07 hx g18
 clear hx
 go_wp2_with fail
 have CT := Q51 ⟨op, a, b, c, n⟩ w4
 rw [show Q14 ⟨op, a, b, c, n⟩ = false by unfold Q14; simp only; simp; omega] at CT
 simp only [insV] at CT
 (with_reducible refine CT.mono ?_)
 clear CT
 rintro e w5 ⟨rfl, hx⟩
 have HB := Lib.hid (HB.out.trans hx)
 have PP := Lib.hid (PP.out.ext hx)
 have i0 := hx.kept i0
 have i1 := hx.kept i1
 have i2 := hx.kept i2
 have i3 := hx.kept i3
 have i4 := hx.kept i4
 have g18 := Q07 hx g18
 clear hx
 go_wp2_with fail
 have CQ := Q8m (M := { M with steps := M.steps + 1, seen := M.seen ++ [⟨1, M.at_, 0⟩] }) p ⟨op, a, b, c, n⟩ Hmok.out.r64 Hiok.out Hpl.out (by simp; omega) w5 PP.out
 unfold Q2f at CQ
 simp only [insV] at CQ
 (with_reducible refine CQ.mono ?_)
 clear CQ
 rintro e w6 ⟨rfl, vS3, P5, T5, -⟩
 have HB : Hid (Ext wB w6) := Lib.hid (Below.trans HB.out (PP.out.below T5))
 have PP := Lib.hid P5
 obtain ⟨-, -, -, -, -, -, -, -, g18, -⟩ := P5.cells
 have hgl := P5.box.lt
 simp only at g18
 clear P5 T5
 go_wp2
 try refine bodyPost_end (results_none rfl _ _ _) rfl ?_
 refine HSP.out vS3 _ ?_ (HB.out.setCell PP.out.hg _)
 have := PP.out.at__ (M.at_ + 1)
 rw [show ((M.at_ + 1 : Nat) : Int) = (M.at_ : Int) + 1 by omega] at this
 rw [Hs.out]
 exact this
theorem Qas (ad : Addr) (n cap : Nat) (w : World) : (binOp .eql 52 (.slice (some ad) n cap) (.slice none 0 0)).run Try.prog w = .ok (.bool false) w := by
 first | (kernel_rfl; done) | (go_simp; done)
theorem Qds : (Try.prog.info? 3).map (fun i => (i.zero, i.size, i.bytes)) = some (some (.int .i64 0), 1, 8) := by kernel_rfl
set_option maxRecDepth 100000 in
theorem Q3e {w : World} {ad : Addr} {n cap : Nat} {news : List Value} (hs : Src w 1 (some ad) n news) (hn : n ≤ 1000000) :
  Calls Try.prog 42 #[.slice (some ad) n cap] w fun e w' => ∃ v', e = .returned v' ∧ w'.ownsRow w.heap.size 2 1 v' n news ∧ Ext w w' := by
 obtain ⟨i0, hi0, hz0, hz1, hz2⟩ := info_parts Q5o
 have Hs := Lib.hid hs
 have hnil := Qas ad n cap
 clear hs
 go_enter Try.func42, Try.ntmps42
 go_wp2_with (at_builtin; refine Q3l _ rfl _ _ 52 rfl w.heap.size 2 i0 _ 1 8 Try.underlying52 hi0 hz0 hz1 hz2 rfl (by decide) _ 0 [] rfl ?c0 (some ad) n cap news rfl ?c1 ?c3 ?c4 ?c5 ?_)
 case c0 =>
  have h := World.ownsRow_lit (base := w.heap.size) (e := 2) (size := 1) w #[] 0 (Nat.le_refl _) (by decide) rfl
  simpa [Act.eval] using h
 case c1 => exact Hs.out.ext ((Ext.refl _).alloc _)
 case c3 => unfold maxLen; omega
 case c4 => omega
 case c5 => simp
 intro v1 w1 hown hgrow hat
 have X : Ext w w1 := ((Ext.refl w).alloc _).grown hgrow (by
  intro k hk
  simp [Act.eval, Value.ownBlock] at hk
  omega)
 have Hown := Lib.hid hown
 have X := Lib.hid X
 clear hown hgrow hat
 go_wp2
 go_ret
 exact ⟨_, rfl, by simpa using Hown.out, X.out⟩
section
variable {w w' : World} {B g : Nat} {vR vC vM vB vS vW : Value} {bases : List Int} {M : Mach}
theorem MSt.bases_ (h : MSt w B g vR vC vM vB vS vW bases M) {vB' : Value} {bs : List Int} (hg : w.grownBy w' vB.ownBlock) (ho : w'.ownsRow B 3 1 vB' bs.length (bs.map (Value.int .i64))) :
  MSt (w'.setCell ⟨g, 19, none⟩ vB') B g vR vC vM vB' vS vW bs M := by
 have hb := h.box.grown hg h.gb
 have hne : some g ≠ vB'.ownBlock := Q0l ho hb (by decide)
 have hw := Q1h h.ws hg (fun k hk he => Q22 h.bs h.ws (by decide) k hk he)
 have hs := Q1h h.sn hg (fun k hk he => Q22 h.bs h.sn (by decide) k hk he)
 exact ⟨by rw [← Qcz h.len (u := vB')]; exact hb.set_ 19 vB', Q10 hs h.gs _, Q10 hw h.gw _, Q10 ho hne _, h.len, h.hg⟩
theorem MSt.words_ (h : MSt w B g vR vC vM vB vS vW bases M) {vW' : Value} {ws : List Int} (hg : w.grownBy w' vW.ownBlock) (ho : w'.ownsRow B 2 1 vW' ws.length (ws.map (Value.int .i64))) :
  MSt (w'.setCell ⟨g, 17, none⟩ vW') B g vR vC vM vB vS vW' bases { M with words := ws } := by
 have hb := h.box.grown hg h.gw
 have hne : some g ≠ vW'.ownBlock := Q0l ho hb (by decide)
 have hbs := Q1h h.bs hg (fun k hk he => Q22 h.ws h.bs (by decide) k hk he)
 have hs := Q1h h.sn hg (fun k hk he => Q22 h.ws h.sn (by decide) k hk he)
 exact ⟨by rw [← Qcs h.len (u := vW')]; exact hb.set_ 17 vW', Q10 hs h.gs _, Q10 ho hne _, Q10 hbs h.gb _, h.len, h.hg⟩
end
def Qf2 (p : Q00) (m : List (List Int)) (vR vC : Value) (w : World) (e : Ending) (w' : World) : Prop :=
 ∃ g vB vW, e = .returned (.pointer (some ⟨g, 0, none⟩)) ∧ MSt w' w.heap.size g vR vC (.slice none 0 0) vB (.slice none 0 0) vW (Q0n p) (Q01 m.flatten) ∧ Ext w w'
def bsTo (p : Q00) (j : Nat) : List Int := (List.range j).map fun k => (Q04 p k : Int)
set_option maxRecDepth 100000 in
set_option maxHeartbeats 4000000 in
theorem Q9h (p : Q00) (m : List (List Int)) (vR vC vm : Value) (w : World) (hm : Q1k w vm m) (hf : Q24 p m = true) (hr : Q0k p.regs = true) :
  Calls Try.prog 18 #[.agg #[vR, vC], vm] w (Qf2 p m vR vC w) := by
 obtain ⟨hl1, hl2⟩ := Q6x hf
 have hlen := Q3z hr
 have htt := Q3y hr
 have Hft := Lib.hid (Q9a hf)
 obtain ⟨oa, cap, b, o, rfl, hc1, hc2, vs0, hrow, hin⟩ := hm
 have hix := index_mem' (cap := cap) hrow.at_
 have Hrow := Lib.hid hrow
 have Hin := Lib.hid hin
 have Hl2 := Lib.hid hl2
 have Hr := Lib.hid hr
 have Hl1 := Lib.hid hl1
 have hm6 : m.length ≤ 6 := by omega
 obtain ⟨i0, hi0, hz0, hz1, hz2⟩ := info_parts Q5o
 obtain ⟨j0, hj0, hy0, hy1, hy2⟩ := info_parts Qds
 clear hrow hin hc1 hc2 hl2 hr hl1 hlen
 go_enter Try.func18, Try.ntmps18
 go_wp2_with fail
 obtain ⟨W, gp, hg, hW, hx, bP, bM⟩ := Q5u w #[vR, vC] #[vR, vC, .int .i64 0, .int .i64 0, .int .i64 0, .slice none 0 0, .slice none 0 0, .int .i64 0, .int .i64 0, .int .i64 0, .int .i64 0, .int .i64 0, .int .i64 0, .int .i64 0, .int .i64 0, .int .i64 0, .int .i64 0, .slice none 0 0, .int .i64 0, .slice none 0 0] 25 58
 rw [hW, hg]
 have X := Lib.hid hx
 have P0 : MSt W w.heap.size (gp + 1) vR vC (.slice none 0 0) (.slice none 0 0) (.slice none 0 0) (.slice none 0 0) (bsTo p 0) { Q01 [] with words := (m.take 0).flatten } :=
  ⟨bM, World.ownsRow_nil _ _ _ _, World.ownsRow_nil _ _ _ _, World.ownsRow_nil _ _ _ _, rfl, by omega⟩
 clear hW hg hx bP bM
 generalize gp + 1 = g at *
 go_loopw [13] (fun i wr => ∃ (j : Nat) (vB vW : Value), j ≤ m.length ∧ i = .int .i64 j ∧ MSt wr w.heap.size g vR vC (.slice none 0 0) vB (.slice none 0 0) vW (bsTo p j) { Q01 [] with words := (m.take j).flatten } ∧ Ext w wr) (fun i _ => m.length - (intOf i).toNat)
 case atStart => exact ⟨0, _, _, by omega, rfl, P0, X.out⟩
 case round =>
  obtain ⟨j, vB, vW, hj, rfl, P, hE⟩ := hrel
  have X := Lib.hid hE
  have PP := Lib.hid P
  have hgl := P.box.lt
  have hwl : ((m.take j).flatten).length = Q04 p j := Hft.out j (by rw [← Hl1.out]; omega)
  have hbl := Qeq p j
  clear hE P
  by_cases hlt : j < m.length
  ·have e0 := (Hrow.out.ext X.out).one j hlt
   have h1 := Hin.out j hlt
   have hlj := Hl2.out j (by rw [← Hl1.out]; omega)
   have hw6 : Q0b (p.regs.getD j default) ≤ 64 := Q4c _ (Q4m Hr.out _ (Q1f (by rw [← Hl1.out]; omega))).2
   have Hnext : Hid ((m.take (j + 1)).flatten = (m.take j).flatten ++ m.getD j default) := Lib.hid (by
    rw [List.take_succ_eq_append_getElem hlt, List.flatten_append]
    simp [hlt])
   have Hbs : Hid (bsTo p (j + 1) = bsTo p j ++ [(Q04 p j : Int)]) := Lib.hid (by simp [bsTo, List.range_succ])
   have hbsl : (bsTo p j).length = j := by simp [bsTo]
   generalize m.getD j default = l at *
   generalize vs0 j = vl at *
   obtain ⟨-, ol, lcap, lb, lo, rfl, hl3, hl4, hlr⟩ := h1
   have Hlr := Lib.hid hlr
   rw [hlj] at e0
   generalize Q0b (p.regs.getD j default) = L at *
   obtain ⟨-, -, -, -, -, -, -, g17, -, g19⟩ := PP.out.cells
   obtain ⟨ob, obc, rfl⟩ := Q0x PP.out.bs
   obtain ⟨ow, owc, rfl⟩ := Q0x PP.out.ws
   have Hwl := Lib.hid hwl
   rw [hbsl] at g19
   simp only [hwl] at g17
   clear hlr hl3 hl4
   go_upto_region 5 with fail
   have k17 : ∀ W, Ext wr W → W.cell? ⟨g, 17, none⟩ = some (.slice ow (Q04 p j) owc) := fun _ h => h.kept g17.1
   have k19 : ∀ W, Ext wr W → W.cell? ⟨g, 19, none⟩ = some (.slice ob j obc) := fun _ h => h.kept g19.1
   refine Q20 [11, 12, 13, 14, 15] 1 (by kernel_rfl) (by kernel_rfl) ?_
   repeat (first | (refine Q2e ?_ ?_; (decide)) | (refine Q25 ?_ ?_ ?_; (decide); (first | rfl | (focus (go_simp; done))); apply Exists.intro; refine ⟨fun wc hE => ?_, ?_⟩; (go_simp; exact rfl); go_simp) | (refine Q2c ?_ ?_ ?_; (decide); (focus (go_simp; done)); go_simp))
   refine Q2d ?_
   intro w2 hx
   have X2 := Lib.hid hx
   clear k17 k19
   refine Q35 rfl ?_
   go_wp2
   have PB := PP.out.ext (X2.out.alloc (.cells #[.int .i64 (Q04 p j : Int)] 3))
   have X3 := Lib.hid (X.out.trans (X2.out.alloc (.cells #[.int .i64 (Q04 p j : Int)] 3)))
   refine ⟨X2.out.alloc _, ?_⟩
   refine Q1n (Q0c rfl (Q0c rfl (Q0c rfl (Q0c rfl (Q1x))))) ?_
   have hbo := PB.bs
   rw [hbsl] at hbo
   refine Q3l _ rfl _ _ 27 rfl w.heap.size 3 j0 _ 1 8 Try.underlying27 hj0 hy0 hy1 hy2 rfl (by decide) _ _ _ rfl hbo (some ⟨w2.heap.size, 0, none⟩) 1 1 [.int .i64 (Q04 p j : Int)] rfl ?c1 ?c3 ?c4 ?c5 ?_
   case c1 => exact Q54 (size := 1) (Blk.new w2 3 #[.int .i64 (Q04 p j : Int)]) rfl (by simp [Value.oneCell'])
   case c3 => unfold maxLen; omega
   case c4 => omega
   case c5 => exact X3.out.size
   intro v1 w3 hown hgrow hat
   clear hat
   obtain ⟨o3, c3, rfl⟩ := Q0x hown
   have hgrow : (w2.alloc (.cells #[.int .i64 (Q04 p j : Int)] 3)).grownBy w3 (Value.slice ob (bsTo p j).length obc).ownBlock := by
    rw [hbsl]; exact hgrow
   have hb3 := PB.box.grown hgrow PB.gb
   have p19 : w3.cell? ⟨g, 19, none⟩ = some (.slice ob j obc) ∧ w3.frozen? ⟨g, 19, none⟩ = false := ⟨by rw [hb3.cell]; simp [Q09, Q01, hbsl], hb3.frozen 19⟩
   have p17 : w3.cell? ⟨g, 17, none⟩ = some (.slice ow (Q04 p j) owc) ∧ w3.frozen? ⟨g, 17, none⟩ = false := ⟨by rw [hb3.cell]; simp [Q09, Q01, Hwl.out], hb3.frozen 17⟩
   have P3 := PB.bases_ (bs := bsTo p j ++ [(Q04 p j : Int)]) (vB' := .slice o3 (j + 1) c3) hgrow (by simpa [hbsl] using hown)
   have X3 := Lib.hid (((X3.out.grown hgrow (Q2h PB.bs))).setCell (p := ⟨g, 19, none⟩) PB.hg (.slice o3 (j + 1) c3))
   have hwo : (w3.setCell ⟨g, 19, none⟩ (.slice o3 (j + 1) c3)).ownsRow w.heap.size 2 1 (.slice ow (Q04 p j) owc) (Q04 p j) (((m.take j).flatten).map (Value.int .i64)) := by
    have := P3.ws
    simp only [Hwl.out] at this
    exact this
   have P3 := Lib.hid P3
   have Hsrc : Hid (Src (w3.setCell ⟨g, 19, none⟩ (.slice o3 (j + 1) c3)) 1 ol L (l.map (Value.int .i64))) := Lib.hid (by
    have := Q7p .i64 (Hlr.out.ext X3.out)
    rw [hlj] at this
    exact this)
   clear g17 g19 hb3 hown hgrow PB hbo
   have hg3 := P3.out.box.lt
   go_wp2_with (at_builtin; refine Q3l _ rfl _ _ 52 rfl w.heap.size 2 i0 _ 1 8 Try.underlying52 hi0 hz0 hz1 hz2 rfl (by decide) _ _ _ rfl hwo ol L lcap (l.map (Value.int .i64)) rfl ?d1 ?d3 ?d4 ?d5 ?_)
   case d1 => exact Hsrc.out
   case d3 => unfold maxLen; omega
   case d4 => omega
   case d5 => exact X3.out.size
   intro v2 w4 hown2 hgrow2 hat2
   clear hat2
   obtain ⟨o4, c4, rfl⟩ := Q0x hown2
   have hgr : (w3.setCell ⟨g, 19, none⟩ (.slice o3 (j + 1) c3)).grownBy w4 (Value.slice ow ({ Q01 [] with words := (m.take j).flatten } : Mach).words.length owc).ownBlock := by
    simp only [Hwl.out]; exact hgrow2
   have hb4 := P3.out.box.grown hgr P3.out.gw
   have q17 : w4.cell? ⟨g, 17, none⟩ = some (.slice ow (Q04 p j) owc) ∧ w4.frozen? ⟨g, 17, none⟩ = false := ⟨by rw [hb4.cell]; simp [Q09, Q01, Hwl.out], hb4.frozen 17⟩
   have P4 := Lib.hid (P3.out.words_ (ws := (m.take j).flatten ++ l) (vW' := .slice o4 (Q04 p j + L) c4) hgr (by simpa [Hwl.out, hlj] using hown2))
   have X4 := Lib.hid ((X3.out.grown hgrow2 (Q2h hwo)).setCell (p := ⟨g, 17, none⟩) P3.out.hg (.slice o4 (Q04 p j + L) c4))
   clear hb4 hgr hown2 hgrow2 hwo p17 p19
   go_wp2
   go_roundw
   case rel => exact ⟨j + 1, _, _, by omega, by go_num, by rw [Hbs.out, Hnext.out]; exact P4.out, X4.out⟩
   case measure => first | (simp [intOf]; done) | (simp [intOf]; omega)
  ·have hje : j = m.length := by omega
   subst hje
   have hlt2 : decide ((m.length : Int) < (m.length : Int)) = false := by simp
   have HB : Hid (bsTo p m.length = Q0n p) := Lib.hid (by rw [Hl1.out]; rfl)
   have HF : Hid ((m.take m.length).flatten = m.flatten) := Lib.hid (by rw [List.take_length])
   go_wp2
   go_ret
   refine ⟨g, vB, vW, rfl, ?_, X.out⟩
   have := PP.out
   rw [HB.out, HF.out] at this
   exact this
theorem MSt.mem_ {w : World} {B g : Nat} {vR vC vM vB vS vW : Value} {bases : List Int} {M : Mach} (h : MSt w B g vR vC vM vB vS vW bases M) (u : Value) : MSt (w.setCell ⟨g, 6, none⟩ u) B g vR vC u vB vS vW bases M :=
 ⟨by rw [← Qcx (u := u)]; exact h.box.set_ 6 u, Q10 h.sn h.gs u, Q10 h.ws h.gw u, Q10 h.bs h.gb u, h.len, h.hg⟩
def Q3i (w : World) (B : Nat) (v : Value) (fin value : Int) (steps : Nat) (seen : List LSee) (mem : List (List Int)) : Prop :=
 ∃ vs vm U, v = .agg #[.int .i64 fin, .int .i64 value, .int .i64 steps, vs, vm] ∧ w.ownsRow B 79 3 vs seen.length (seen.flatMap Q2x) ∧ Q19 w B U 52 2 vm mem
theorem Q3i.at_ {w : World} {B : Nat} {v : Value} {fin value : Int} {steps : Nat} {seen : List LSee} {mem : List (List Int)} (h : Q3i w B v fin value steps seen mem) (h64 : ∀ l ∈ mem, ∀ x ∈ l, R64 x) : Q1z w v fin value steps seen mem := by
 obtain ⟨vs, vm, U, rfl, h1, h2⟩ := h
 exact ⟨vs, vm, rfl, Qb0 h1, h2.mem h64⟩
theorem Q3i.far {w : World} {B : Nat} {v : Value} {fin value : Int} {steps : Nat} {seen : List LSee} {mem : List (List Int)} (h : Q3i w B v fin value steps seen mem) {p : Addr} (hp : p.block < B) (u : Value) : Q3i (w.setCell p u) B v fin value steps seen mem := by
 obtain ⟨vs, vm, U, rfl, h1, h2⟩ := h
 exact ⟨vs, vm, U, rfl, Q10 h1 (fun e => by have := Q2h h1 _ e.symm; omega) u, h2.far hp u⟩
theorem Q3a {w : World} {b b' : Nat} {e : TypeId} {s n : Nat} {v : Value} {xs : List Value} (h : w.ownsRow b e s v n xs) (hb : b' ≤ b) : w.ownsRow b' e s v n xs := by
 refine ⟨h.1, ?_⟩
 rcases h.2 with h | ⟨g, cap, cur, rfl, h1, h2, h3⟩
 ·exact .inl h
 ·exact .inr ⟨g, cap, cur, rfl, by omega, h2, h3⟩
theorem Q19.mono {w : World} {B B' U : Nat} {T E : TypeId} {v : Value} {m : List (List Int)} (h : Q19 w B U T E v m) (hb : B' ≤ B) : Q19 w B' U T E v m := by
 obtain ⟨vs, h1, h2, h3, h4, h5⟩ := h
 exact ⟨vs, h1, Q3a h2 hb, h3, fun i hi => ⟨Q3a (h4 i hi).1 hb, (h4 i hi).2⟩, h5⟩
def Qf1 (p : Q00) (M : Mach) (wB : World) (e : Ending) (w' : World) : Prop :=
 ∃ u, e = .returned u ∧ Q3i w' wB.heap.size u M.fin M.value M.steps M.seen (Q0v p M.words) ∧ Ext wB w'
theorem Qa4 {α : Type} [Inhabited α] {l : List α} {j : Nat} (h : j < l.length) : l.take (j + 1) = l.take j ++ [l.getD j default] := by
 rw [List.take_succ_eq_append_getElem h]; simp [h]
theorem Qea {p : Q00} {M : Mach} {wB w1 : World} {D g r : Nat} {vR vC vM vB vS vW x0 x1 x2 x3 x4 : Value} (P : MSt w1 wB.heap.size g vR vC vM vB vS vW (Q0n p) M) (hM : Q19 w1 D w1.heap.size 52 2 vM (Q0v p M.words)) (hBD : wB.heap.size ≤ D)
  (hR : Blk w1 r 30 #[x0, x1, x2, x3, x4]) (hrB : wB.heap.size ≤ r) (hrD : r < D) (hx : Ext wB w1) {w2 : World}
  (hw : w2 = ((((w1.setCell ⟨r, 0, none⟩ (.int .i64 M.fin)).setCell ⟨r, 1, none⟩ (.int .i64 M.value)).setCell ⟨r, 2, none⟩ (.int .i64 M.steps)).setCell ⟨r, 3, none⟩ vS).setCell ⟨r, 4, none⟩ vM) :
  Blk w2 r 30 #[.int .i64 M.fin, .int .i64 M.value, .int .i64 M.steps, vS, vM] ∧ Q3i w2 wB.heap.size (.agg #[.int .i64 M.fin, .int .i64 M.value, .int .i64 M.steps, vS, vM]) M.fin M.value M.steps M.seen (Q0v p M.words) ∧ Ext wB w2 := by
 subst hw
 have hne := Q0l P.sn hR (by decide)
 refine ⟨((((hR.set_ 0 _).set_ 1 _).set_ 2 _).set_ 3 _).set_ 4 _, ⟨vS, vM, w1.heap.size, rfl, Q10 (Q10 (Q10 (Q10 (Q10 P.sn hne _) hne _) hne _) hne _) hne _, ?_⟩, ?_⟩
 ·exact (((((hM.far (p := ⟨r, 0, none⟩) hrD _).far (p := ⟨r, 1, none⟩) hrD _).far (p := ⟨r, 2, none⟩) hrD _).far (p := ⟨r, 3, none⟩) hrD _).far (p := ⟨r, 4, none⟩) hrD _).mono hBD
 ·exact ((((hx.setCell hrB _).setCell hrB _).setCell hrB _).setCell hrB _).setCell hrB _
theorem Qak {w w2 : World} {k : Nat} {ws l : List Int} {base L : Nat} (h : ∀ j x, j < ws.length → (ws.map (Value.int .i64))[j]? = some x → w.cell? ⟨k, j, none⟩ = some x ∧ w.frozen? ⟨k, j, none⟩ = false) (hl : l = (ws.drop base).take L) (hL : l.length = L) (hb : base + L ≤ ws.length) (hx : Ext w w2) :
  Src w2 1 (some ⟨k, base, none⟩) L (l.map (Value.int .i64)) := by
 refine ⟨by rw [List.length_map, hL, Nat.mul_one], (fun h => by cases h), fun ad ha q u hu => ?_, fun u hu => ?_⟩
 ·obtain rfl := Option.some.inj ha
  rw [Addr.add_lit]
  have hq : q < L := by
   have := (List.getElem?_eq_some_iff.1 hu).1
   rw [List.length_map, hL] at this
   exact this
  refine hx.kept (h (base + q) u (by omega) ?_).1
  rw [← hu, hl, List.getElem?_map, List.getElem?_map, List.getElem?_take_of_lt hq, List.getElem?_drop]
 ·simp only [List.mem_map] at hu
  obtain ⟨y, -, rfl⟩ := hu
  rfl
theorem MSt.grown_mem {w w' : World} {B D g n : Nat} {vR vC vM vB vS vW u : Value} {bases : List Int} {M : Mach} {xs : List Value} (h : MSt w B g vR vC vM vB vS vW bases M) (hu : w.ownsRow D 52 1 u n xs) (hg : w.grownBy w' u.ownBlock) : MSt w' B g vR vC vM vB vS vW bases M :=
 ⟨h.box.grown hg (Q0l hu h.box (by decide)), Q1h h.sn hg (fun k hk he => Q22 hu h.sn (by decide) k hk he), Q1h h.ws hg (fun k hk he => Q22 hu h.ws (by decide) k hk he), Q1h h.bs hg (fun k hk he => Q22 hu h.bs (by decide) k hk he), h.len, h.hg⟩
theorem Qc7 {w : World} {B k n cap : Nat} {e : TypeId} {s : Nat} {xs : List Value} (h : w.ownsRow B e s (.slice (some ⟨k, 0, none⟩) n cap) n xs) : n ≤ cap ∧ cap ≤ maxLen := by
 rcases h.2 with ⟨h0, -⟩ | ⟨k', cap', cur, hh, a1, a2, a3, a4, -⟩
 ·cases h0
 ·simp only [Value.slice.injEq, Option.some.injEq, Addr.mk.injEq, and_true, true_and] at hh
  obtain ⟨rfl, rfl⟩ := hh
  exact ⟨a3, a4⟩
set_option maxRecDepth 100000 in
set_option maxHeartbeats 4000000 in
theorem Q5t (p : Q00) {wB : World} {g : Nat} {vR vC vB vS vW : Value} {M : Mach} (hr : Q0k p.regs = true) (hok : MOk p M) (w : World) (hp : Q1v wB (.agg #[vR, vC]) p) (hbx : Ext wB w) (h : MSt w wB.heap.size g vR vC (.slice none 0 0) vB vS vW (Q0n p) M) :
  Calls Try.prog 21 #[.pointer (some ⟨g, 0, none⟩)] w (Qf1 p M wB) := by
 have hlen := Q3z hr
 have htt := Q3y hr
 have hwl := hok.wlen
 have H64 := Lib.hid hok.w64
 have Hr := Lib.hid hr
 have H := Lib.hid h
 have HX := Lib.hid hbx
 have hgl := h.box.lt
 have Hgl := Lib.hid hgl
 have HR : Hid (∀ W, Ext wB W → Q2u W vR p.regs) := Lib.hid (by
  obtain ⟨v1, v2, hv, hR, -⟩ := hp
  simp only [Value.agg.injEq, Array.mk.injEq, List.cons.injEq, and_true] at hv
  obtain ⟨rfl, -⟩ := hv
  exact fun W hW => hR.ext hW)
 obtain ⟨oa, cap, rfl⟩ : ∃ a c, vR = .slice a p.regs.length c := by
  obtain ⟨-, oa, cap, b, o, hv, -⟩ := HR.out wB (Ext.refl _)
  exact ⟨oa, cap, hv⟩
 obtain ⟨j0, hj0, hy0, hy1, hy2⟩ := info_parts Qdr
 obtain ⟨ob, obc, rfl⟩ := Q0x h.bs
 have hbl := Q30 p
 obtain ⟨-, -, -, -, -, -, -, -, -, g19⟩ := h.cells
 simp only [hbl] at g19
 clear hok hr h hbx hp
 go_enter Try.func21, Try.ntmps21
 go_wp2_with fail
 obtain ⟨W0, r, hrr, hW, hx, bR⟩ := Q3h w #[.int .i64 0, .int .i64 0, .int .i64 0, .slice none 0 0, .slice none 0 0] 30
 rw [hW, hrr]
 have hWs : W0.heap.size = r + 1 := by rw [← hW, ← hrr]; simp
 have hgr : g ≠ r := by omega
 have Hgr : Hid (g < r) := Lib.hid (by omega)
 have hBr : wB.heap.size ≤ r := by have := HX.out.size; omega
 have P0 := H.out.ext hx
 have X0 := HX.out.trans hx
 have BR := Lib.hid bR
 have HBr := Lib.hid hBr
 clear hW hrr hx bR g19 hgl
 have HW0 := Lib.hid hWs
 go_loopw [11] (fun i wr => ∃ (j : Nat) (vM : Value), j ≤ p.regs.length ∧ i = .int .i64 j ∧ MSt wr wB.heap.size g (.slice oa p.regs.length cap) vC vM (.slice ob (Q0n p).length obc) vS vW (Q0n p) M ∧ Q19 wr W0.heap.size wr.heap.size 52 2 vM ((Q0v p M.words).take j) ∧ Ext wB wr ∧ Blk wr r 30 #[.int .i64 0, .int .i64 0, .int .i64 0, .slice none 0 0, .slice none 0 0] ∧ W0.heap.size ≤ wr.heap.size) (fun i _ => p.regs.length - (intOf i).toNat)
 case atStart => exact ⟨0, _, by omega, rfl, P0, by simpa using Qcn _ _ _ _ _, X0, BR.out, Nat.le_refl _⟩
 case round =>
  obtain ⟨j, vM, hj, rfl, P, hMo, hE, bR, hWr⟩ := hrel
  have X := Lib.hid hE
  have PP := Lib.hid P
  have bR := Lib.hid bR
  have hMo := Lib.hid hMo
  have hgl := P.box.lt
  by_cases hlt : j < p.regs.length
  ·have hR := HR.out wr hE
   obtain ⟨-, oa', cap', b, o, hv, hc1, hc2, hrow⟩ := hR
   simp only [Value.slice.injEq, true_and] at hv
   obtain ⟨rfl, rfl⟩ := hv
   have hix := Q46 (cap := cap) hrow.at_
   obtain ⟨e0, e1⟩ := hrow.reg j hlt
   have hlog := Q4m Hr.out _ (Q1f hlt)
   have hbe := Q4w p j hlt
   have hw6 : Q0b (p.regs.getD j default) ≤ 64 := Q4c _ hlog.2
   have hw1 : 0 < Q0b (p.regs.getD j default) := Q9q _
   have Hrl := Lib.hid (Qan (ws := M.words) hwl hlt)
   have Hrg := Lib.hid (Q7q (p := p) M.words hlt)
   have Htk := Lib.hid (Qa4 (l := Q0v p M.words) (j := j) (by rw [Q67]; exact hlt))
   have Htl : Hid (((Q0v p M.words).take j).length = j) := Lib.hid (by rw [List.length_take, Q67]; omega)
   obtain ⟨g0, -, -, -, -, -, g6, g17, -, g19⟩ := P.cells
   obtain ⟨kb, capb, hvb, hkb, hbs⟩ := Q2n P.bs (show 0 < (Q0n p).length by rw [Q30]; omega)
   obtain ⟨b19, -⟩ := hbs j _ (by rw [Q30]; omega) (Q75 p hlt)
   simp only [Value.slice.injEq, true_and] at hvb
   obtain ⟨rfl, rfl⟩ := hvb
   have hixb := Q98 kb p.regs.length obc
   generalize p.regs.getD j default = rg0 at *
   clear hE P hrow hc1 hc2 hbs
   go_wp2_with fail
   (with_reducible refine (Q4d rg0 hlog.1 hlog.2 wr).mono ?_)
   rintro e w1 ⟨rfl, hx⟩
   generalize Q0b rg0 = L at *
   have X := Lib.hid (X.out.trans hx)
   have PP := Lib.hid (PP.out.ext hx)
   have bR := Lib.hid (bR.out.ext hx)
   have hMo := Lib.hid (hMo.out.below (Below.mono hx (Nat.le_refl _)))
   have g6 := Q07 hx g6
   have g17 := Q07 hx g17
   have hWr1 := hx.size
   obtain ⟨kw, capw, hvw, hkw, hws⟩ := Q2n PP.out.ws (show 0 < M.words.length by omega)
   subst hvw
   have hcapw := Qc7 PP.out.ws
   obtain ⟨vs, q1, q2, q3, q4, q5⟩ := hMo.out
   rw [Htl.out] at q2
   obtain ⟨om, omc, rfl⟩ := Q0x q2
   have hBW : wB.heap.size ≤ W0.heap.size := by omega
   have hwr : IntKind.i64.wrap ((Q04 p j : Int) + (L : Int)) = (Q04 p j : Int) + (L : Int) := Go.IntWalk.i64_in _ (by omega)
   have Hws := Lib.hid hws
   have hsA : 0 ≤ (Q04 p j : Int) + (L : Int) := by omega
   have hsB : (Q04 p j : Int) + (L : Int) ≤ (capw : Int) := by have := hcapw.1; omega
   have hsC : ((Q04 p j : Int) + (L : Int)).toNat = Q04 p j + L := by omega
   have hsD : ¬ capw = Q04 p j := by have := hcapw.1; omega
   clear hx e0 e1 g0 g19 b19 hws
   go_upto_region 5 with fail
   have k6 : ∀ W, Ext w1 W → W.cell? ⟨g, 6, none⟩ = some (.slice om j omc) := fun _ h => h.kept g6.1
   have k17 : ∀ W, Ext w1 W → W.cell? ⟨g, 17, none⟩ = some (.slice (some ⟨kw, 0, none⟩) M.words.length capw) := fun _ h => h.kept g17.1
   refine Q20 [16, 17, 18, 19, 20, 21, 22] 2 (by kernel_rfl) (by kernel_rfl) ?_
   repeat (first | (refine Q2e ?_ ?_; (decide)) | (refine Q25 ?_ ?_ ?_; (decide); (first | rfl | (focus (go_simp; done))); apply Exists.intro; refine ⟨fun wc hE => ?_, ?_⟩; (go_simp; exact rfl); go_simp) | (refine Q2c ?_ ?_ ?_; (decide); (focus (go_simp; done)); go_simp))
   refine Q2d ?_
   intro w2 hx
   clear k6 k17
   have X2 := X.out.trans hx
   have hsrc := Qak Hws.out Hrg.out Hrl.out (show Q04 p j + L ≤ M.words.length by omega) hx
   have Hsrc := Lib.hid hsrc
   refine Q35 rfl ?_
   go_wp2_with fail
   (with_reducible refine (Q3e Hsrc.out (by omega)).mono ?_)
   rintro e w3 ⟨v', rfl, hv', hx3⟩
   obtain ⟨o3, c3, rfl⟩ := Q0x hv'
   have hx13 := hx.trans hx3
   have hat1 : ∀ b, (Value.slice o3 L c3).ownBlock = some b → w1.heap.size ≤ b := fun b hb => Nat.le_trans hx.size (Q2h hv' b hb)
   have hv' := Q3a hv' (show W0.heap.size ≤ w2.heap.size by have := hx.size; omega)
   go_wp2
   try refine ⟨hx13, ?_⟩
   refine Q35 rfl ?_
   go_wp2
   try refine ⟨hx13.alloc _, ?_⟩
   refine Q1n (Q0c rfl (Q0c rfl (Q0c rfl (Q0c rfl (Q0c rfl (Q1x)))))) ?_
   refine Q3l _ rfl _ _ 26 rfl W0.heap.size 52 j0 _ 1 24 Try.underlying26 hj0 hy0 hy1 hy2 rfl (by decide) _ _ _ rfl (Q6f (Q2b q2 hx13)) (some ⟨w3.heap.size, 0, none⟩) 1 1 [.slice o3 L c3] rfl ?c1 ?c3 ?c4 ?c5 ?_
   case c1 => exact Q54 (size := 1) (Blk.new w3 52 #[.slice o3 L c3]) rfl (by simp [Value.oneCell'])
   case c3 => unfold maxLen; omega
   case c4 => omega
   case c5 => have := hx13.size; simp; omega
   intro v2' w4 hown hgrow hat
   clear hat
   obtain ⟨o5, c5, rfl⟩ := Q0x hown
   obtain ⟨v2, hv2⟩ : ∃ v2, v2 = Value.slice o5 (j + 1) c5 := ⟨_, rfl⟩
   rw [← hv2] at hown
   have hgrow : (w3.alloc (.cells #[.slice o3 L c3] 52)).grownBy w4 (Value.slice om j omc).ownBlock := hgrow
   have hxa := hx13.alloc (.cells #[.slice o3 L c3] 52)
   have q2a : (w3.alloc (.cells #[.slice o3 L c3] 52)).ownsRow W0.heap.size 52 1 (.slice om j omc) j vs := Q2b q2 hxa
   have HM4 : Hid (Q19 w4 W0.heap.size w4.heap.size 52 2 v2 ((Q0v p M.words).take (j + 1))) := Lib.hid (by
    rw [Htk.out]
    exact Qcm (wr := w1) (w1 := w3) (out := .slice om j omc) (by decide) q1 (by rw [Htl.out]; exact q2) (fun i hi => (q4 i hi).1) q5 hxa (Q6f (by rw [Hrl.out]; exact hv')) hat1 (by rw [Htl.out]; exact hown) hgrow)
   have P4 := (PP.out.ext hxa).grown_mem q2a hgrow
   have bR4 := (bR.out.ext hxa).grown hgrow (Q0l q2a (bR.out.ext hxa) (by decide))
   have X4 := (X.out.trans hxa).grown hgrow (fun k hk => Nat.le_trans hBW (Q2h q2a k hk))
   have hWr4 : W0.heap.size ≤ w4.heap.size := by have := hgrow.size; have := hxa.size; omega
   obtain ⟨-, -, -, -, -, -, g6, -, -, -⟩ := P4.cells
   have hg4 := P4.box.lt
   have P5 := Lib.hid (P4.mem_ v2)
   have bR5 := Lib.hid (bR4.far (p := ⟨g, 6, none⟩) hgr.symm v2)
   have X5 := Lib.hid (X4.setCell (p := ⟨g, 6, none⟩) PP.out.hg v2)
   have HM5 : Hid (Q19 (w4.setCell ⟨g, 6, none⟩ v2) W0.heap.size (w4.setCell ⟨g, 6, none⟩ v2).heap.size 52 2 v2 ((Q0v p M.words).take (j + 1))) := Lib.hid (by
    rw [Q21]
    exact HM4.out.far (p := ⟨g, 6, none⟩) (by have := Hgr.out; have := HW0.out; simp only; omega) v2)
   have hWr5 : W0.heap.size ≤ (w4.setCell ⟨g, 6, none⟩ v2).heap.size := by rw [Q21]; exact hWr4
   have HWr5 := Lib.hid hWr5
   subst hv2
   clear hown hgrow hxa q2a P4 bR4 X4 hWr4 hWr5 hx hx3 hx13 hv' hat1
   go_wp2
   go_roundw
   case rel => exact ⟨j + 1, _, by omega, by go_num, P5.out, HM5.out, X5.out, bR5.out, HWr5.out⟩
   case measure => first | (simp [intOf]; done) | (simp [intOf]; omega)
  ·have hje : j = p.regs.length := by omega
   subst hje
   have hlt2 : decide ((p.regs.length : Int) < (p.regs.length : Int)) = false := by simp
   have hMo : Hid (Q19 wr W0.heap.size wr.heap.size 52 2 vM (Q0v p M.words)) := Lib.hid (by
    have := hMo.out
    rw [List.take_of_length_le (by rw [Q67]; omega)] at this
    exact this)
   obtain ⟨-, -, g2, g3, g4, g5, g6, -, -, -⟩ := P.cells
   have r0 : wr.cell? ⟨r, 0, none⟩ = some (.int .i64 0) ∧ wr.frozen? ⟨r, 0, none⟩ = false := ⟨by rw [bR.out.cell]; rfl, bR.out.frozen _⟩
   have r1 : wr.cell? ⟨r, 1, none⟩ = some (.int .i64 0) ∧ wr.frozen? ⟨r, 1, none⟩ = false := ⟨by rw [bR.out.cell]; rfl, bR.out.frozen _⟩
   have r2 : wr.cell? ⟨r, 2, none⟩ = some (.int .i64 0) ∧ wr.frozen? ⟨r, 2, none⟩ = false := ⟨by rw [bR.out.cell]; rfl, bR.out.frozen _⟩
   have r3 : wr.cell? ⟨r, 3, none⟩ = some (.slice none 0 0) ∧ wr.frozen? ⟨r, 3, none⟩ = false := ⟨by rw [bR.out.cell]; rfl, bR.out.frozen _⟩
   have r4 : wr.cell? ⟨r, 4, none⟩ = some (.slice none 0 0) ∧ wr.frozen? ⟨r, 4, none⟩ = false := ⟨by rw [bR.out.cell]; rfl, bR.out.frozen _⟩
   have hrl := bR.out.lt
   obtain ⟨ov, ovc, rfl⟩ := Q0x P.sn
   obtain ⟨om, omc, rfl⟩ : ∃ a c, vM = .slice a (Q0v p M.words).length c := by
    obtain ⟨vs, h1, h2, -⟩ := hMo.out
    exact Q0x h2
   clear P hE hlt
   go_wp2
   have hE := Qea (PP.out) hMo.out (show wB.heap.size ≤ W0.heap.size by have := HW0.out; have := HBr.out; omega) bR.out HBr.out (show r < W0.heap.size by have := HW0.out; omega) X.out rfl
   have HE := Lib.hid hE
   clear hE
   exact bodyPost_ret (Q8a (HE.out.1) rfl _ rfl Try.underlying30 rfl (by kernel_rfl)) rfl ⟨_, rfl, HE.out.2⟩
def ten : Array Value := regV (List.replicate 10 0)
end Go.Proofs.Ytalpnmjaafcpoaa
