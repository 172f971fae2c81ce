/- Laid together from: Seq6, Ref3d, Seq7, Play5, Play6, Ref3e, SeqR. -/
import Derived.Test.YtceocimckkgaoaaFindSameB22
import Derived.Test.YtceocimckkgaoaaFindSameB20
import Derived.Test.YtceocimckkgaoaaFindSameB21

namespace Go.Proofs.Ytceocimckkgaoaa
open Go.ChangeShapes Go.WideShapes Go.ChangeAt Go.RowKit
set_option linter.unusedVariables false
set_option linter.unusedSimpArgs false
theorem MSt.mem_ {w : World} {B g : Nat} {vR vC vM vB vS vW : Value} {bases : List Int} {M : Mach} (h : MSt w B g vR vC vM vB vS vW bases M) (u : Value) : MSt (w.setCell ⟨g, 6, none⟩ u) B g vR vC u vB vS vW bases M :=
 ⟨by rw [← Qc6 (u := u)]; exact h.box.set_ 6 u, Q0u h.sn h.gs u, Q0u h.ws h.gw u, Q0u h.bs h.gb u, h.len, h.hg⟩
def Q3b (w : World) (B : Nat) (v : Value) (fin value : Int) (steps : Nat) (seen : List LSee) (mem : List (List Int)) : Prop :=
 ∃ vs vm U, v = .agg #[.int .i64 fin, .int .i64 value, .int .i64 steps, vs, vm] ∧ w.ownsRow B 45 3 vs seen.length (seen.flatMap Q2s) ∧ Q15 w B U 57 2 vm mem
theorem Q3b.at_ {w : World} {B : Nat} {v : Value} {fin value : Int} {steps : Nat} {seen : List LSee} {mem : List (List Int)} (h : Q3b w B v fin value steps seen mem) (h64 : ∀ l ∈ mem, ∀ x ∈ l, R64 x) : Q2f w v fin value steps seen mem := by
 obtain ⟨vs, vm, U, rfl, h1, h2⟩ := h
 exact ⟨vs, vm, rfl, Qad h1, h2.mem h64⟩
theorem Q3b.far {w : World} {B : Nat} {v : Value} {fin value : Int} {steps : Nat} {seen : List LSee} {mem : List (List Int)} (h : Q3b w B v fin value steps seen mem) {p : Addr} (hp : p.block < B) (u : Value) : Q3b (w.setCell p u) B v fin value steps seen mem := by
 obtain ⟨vs, vm, U, rfl, h1, h2⟩ := h
 exact ⟨vs, vm, U, rfl, Q0u h1 (fun e => by have := Q2c h1 _ e.symm; omega) u, h2.far hp u⟩
theorem Q35 {w : World} {b b' : Nat} {e : TypeId} {s n : Nat} {v : Value} {xs : List Value} (h : w.ownsRow b e s v n xs) (hb : b' ≤ b) : w.ownsRow b' e s v n xs := by
 refine ⟨h.1, ?_⟩
 rcases h.2 with h | ⟨g, cap, cur, rfl, h1, h2, h3⟩
 ·exact .inl h
 ·exact .inr ⟨g, cap, cur, rfl, by omega, h2, h3⟩
theorem Q15.mono {w : World} {B B' U : Nat} {T E : TypeId} {v : Value} {m : List (List Int)} (h : Q15 w B U T E v m) (hb : B' ≤ B) : Q15 w B' U T E v m := by
 obtain ⟨vs, h1, h2, h3, h4, h5⟩ := h
 exact ⟨vs, h1, Q35 h2 hb, h3, fun i hi => ⟨Q35 (h4 i hi).1 hb, (h4 i hi).2⟩, h5⟩
def Qei (p : Q00) (M : Mach) (wB : World) (e : Ending) (w' : World) : Prop :=
 ∃ u, e = .returned u ∧ Q3b w' wB.heap.size u M.fin M.value M.steps M.seen (Q0j p M.words) ∧ Ext wB w'
theorem Q9m {α : Type} [Inhabited α] {l : List α} {j : Nat} (h : j < l.length) : l.take (j + 1) = l.take j ++ [l.getD j default] := by
 rw [List.take_succ_eq_append_getElem h]; simp [h]
theorem Qdr {p : Q00} {M : Mach} {wB w1 : World} {D g r : Nat} {vR vC vM vB vS vW x0 x1 x2 x3 x4 : Value} (P : MSt w1 wB.heap.size g vR vC vM vB vS vW (Q10 p) M) (hM : Q15 w1 D w1.heap.size 57 2 vM (Q0j p M.words)) (hBD : wB.heap.size ≤ D)
  (hR : Blk w1 r 34 #[x0, x1, x2, x3, x4]) (hrB : wB.heap.size ≤ r) (hrD : r < D) (hx : Ext wB w1) {w2 : World}
  (hw : w2 = ((((w1.setCell ⟨r, 0, none⟩ (.int .i64 M.fin)).setCell ⟨r, 1, none⟩ (.int .i64 M.value)).setCell ⟨r, 2, none⟩ (.int .i64 M.steps)).setCell ⟨r, 3, none⟩ vS).setCell ⟨r, 4, none⟩ vM) :
  Blk w2 r 34 #[.int .i64 M.fin, .int .i64 M.value, .int .i64 M.steps, vS, vM] ∧ Q3b w2 wB.heap.size (.agg #[.int .i64 M.fin, .int .i64 M.value, .int .i64 M.steps, vS, vM]) M.fin M.value M.steps M.seen (Q0j p M.words) ∧ Ext wB w2 := by
 subst hw
 have hne := Q0d P.sn hR (by decide)
 refine ⟨((((hR.set_ 0 _).set_ 1 _).set_ 2 _).set_ 3 _).set_ 4 _, ⟨vS, vM, w1.heap.size, rfl, Q0u (Q0u (Q0u (Q0u (Q0u P.sn hne _) hne _) hne _) hne _) hne _, ?_⟩, ?_⟩
 ·exact (((((hM.far (p := ⟨r, 0, none⟩) hrD _).far (p := ⟨r, 1, none⟩) hrD _).far (p := ⟨r, 2, none⟩) hrD _).far (p := ⟨r, 3, none⟩) hrD _).far (p := ⟨r, 4, none⟩) hrD _).mono hBD
 ·exact ((((hx.setCell hrB _).setCell hrB _).setCell hrB _).setCell hrB _).setCell hrB _
theorem Q9v {w w2 : World} {k : Nat} {ws l : List Int} {base L : Nat} (h : ∀ j x, j < ws.length → (ws.map (Value.int .i64))[j]? = some x → w.cell? ⟨k, j, none⟩ = some x ∧ w.frozen? ⟨k, j, none⟩ = false) (hl : l = (ws.drop base).take L) (hL : l.length = L) (hb : base + L ≤ ws.length) (hx : Ext w w2) :
  Src w2 1 (some ⟨k, base, none⟩) L (l.map (Value.int .i64)) := by
 refine ⟨by rw [List.length_map, hL, Nat.mul_one], (fun h => by cases h), fun ad ha q u hu => ?_, fun u hu => ?_⟩
 ·obtain rfl := Option.some.inj ha
  rw [Addr.add_lit]
  have hq : q < L := by
   have := (List.getElem?_eq_some_iff.1 hu).1
   rw [List.length_map, hL] at this
   exact this
  refine hx.kept (h (base + q) u (by omega) ?_).1
  rw [← hu, hl, List.getElem?_map, List.getElem?_map, List.getElem?_take_of_lt hq, List.getElem?_drop]
 ·simp only [List.mem_map] at hu
  obtain ⟨y, -, rfl⟩ := hu
  rfl
theorem MSt.grown_mem {w w' : World} {B D g n : Nat} {vR vC vM vB vS vW u : Value} {bases : List Int} {M : Mach} {xs : List Value} (h : MSt w B g vR vC vM vB vS vW bases M) (hu : w.ownsRow D 57 1 u n xs) (hg : w.grownBy w' u.ownBlock) : MSt w' B g vR vC vM vB vS vW bases M :=
 ⟨h.box.grown hg (Q0d hu h.box (by decide)), Q1d h.sn hg (fun k hk he => Q1z hu h.sn (by decide) k hk he), Q1d h.ws hg (fun k hk he => Q1z hu h.ws (by decide) k hk he), Q1d h.bs hg (fun k hk he => Q1z hu h.bs (by decide) k hk he), h.len, h.hg⟩
theorem Qbi {w : World} {B k n cap : Nat} {e : TypeId} {s : Nat} {xs : List Value} (h : w.ownsRow B e s (.slice (some ⟨k, 0, none⟩) n cap) n xs) : n ≤ cap ∧ cap ≤ maxLen := by
 rcases h.2 with ⟨h0, -⟩ | ⟨k', cap', cur, hh, a1, a2, a3, a4, -⟩
 ·cases h0
 ·simp only [Value.slice.injEq, Option.some.injEq, Addr.mk.injEq, and_true, true_and] at hh
  obtain ⟨rfl, rfl⟩ := hh
  exact ⟨a3, a4⟩
set_option maxRecDepth 100000 in
set_option maxHeartbeats 4000000 in
theorem Qds (p : Q00) {wB : World} {g : Nat} {vR vC vB vS vW : Value} {M : Mach} (hr : Q0l p.regs = true) (hok : MOk p M) (w : World) (hp : Q1u wB (.agg #[vR, vC]) p) (hbx : Ext wB w) (h : MSt w wB.heap.size g vR vC (.slice none 0 0) vB vS vW (Q10 p) M) :
  Calls Try.prog 21 #[.pointer (some ⟨g, 0, none⟩)] w (Qei p M wB) := by
 have hlen := Q4b hr
 have htt := Q4p hr
 have hwl := hok.wlen
 have H64 := Lib.hid hok.w64
 have Hr := Lib.hid hr
 have H := Lib.hid h
 have HX := Lib.hid hbx
 have hgl := h.box.lt
 have Hgl := Lib.hid hgl
 have HR : Hid (∀ W, Ext wB W → Q3c W vR p.regs) := Lib.hid (by
  obtain ⟨v1, v2, hv, hR, -⟩ := hp
  simp only [Value.agg.injEq, Array.mk.injEq, List.cons.injEq, and_true] at hv
  obtain ⟨rfl, -⟩ := hv
  exact fun W hW => hR.ext hW)
 obtain ⟨oa, cap, rfl⟩ : ∃ a c, vR = .slice a p.regs.length c := by
  obtain ⟨-, oa, cap, b, o, hv, -⟩ := HR.out wB (Ext.refl _)
  exact ⟨oa, cap, hv⟩
 obtain ⟨j0, hj0, hy0, hy1, hy2⟩ := info_parts Qd2
 obtain ⟨ob, obc, rfl⟩ := Q14 h.bs
 have hbl := Q42 p
 obtain ⟨-, -, -, -, -, -, -, -, -, g19⟩ := h.cells
 simp only [hbl] at g19
 clear hok hr h hbx hp
 go_enter Try.func21, Try.ntmps21
 go_wp2_with fail
 obtain ⟨W0, r, hrr, hW, hx, bR⟩ := Q5g w #[.int .i64 0, .int .i64 0, .int .i64 0, .slice none 0 0, .slice none 0 0] 34
 rw [hW, hrr]
 have hWs : W0.heap.size = r + 1 := by rw [← hW, ← hrr]; simp
 have hgr : g ≠ r := by omega
 have Hgr : Hid (g < r) := Lib.hid (by omega)
 have hBr : wB.heap.size ≤ r := by have := HX.out.size; omega
 have P0 := H.out.ext hx
 have X0 := HX.out.trans hx
 have BR := Lib.hid bR
 have HBr := Lib.hid hBr
 clear hW hrr hx bR g19 hgl
 have HW0 := Lib.hid hWs
 go_loopw [11] (fun i wr => ∃ (j : Nat) (vM : Value), j ≤ p.regs.length ∧ i = .int .i64 j ∧ MSt wr wB.heap.size g (.slice oa p.regs.length cap) vC vM (.slice ob (Q10 p).length obc) vS vW (Q10 p) M ∧ Q15 wr W0.heap.size wr.heap.size 57 2 vM ((Q0j p M.words).take j) ∧ Ext wB wr ∧ Blk wr r 34 #[.int .i64 0, .int .i64 0, .int .i64 0, .slice none 0 0, .slice none 0 0] ∧ W0.heap.size ≤ wr.heap.size) (fun i _ => p.regs.length - (intOf i).toNat)
 case atStart => exact ⟨0, _, by omega, rfl, P0, by simpa using Qbw _ _ _ _ _, X0, BR.out, Nat.le_refl _⟩
 case round =>
  obtain ⟨j, vM, hj, rfl, P, hMo, hE, bR, hWr⟩ := hrel
  have X := Lib.hid hE
  have PP := Lib.hid P
  have bR := Lib.hid bR
  have hMo := Lib.hid hMo
  have hgl := P.box.lt
  by_cases hlt : j < p.regs.length
  ·have hR := HR.out wr hE
   obtain ⟨-, oa', cap', b, o, hv, hc1, hc2, hrow⟩ := hR
   simp only [Value.slice.injEq, true_and] at hv
   obtain ⟨rfl, rfl⟩ := hv
   have hix := Q3w (cap := cap) hrow.at_
   obtain ⟨e0, e1⟩ := hrow.reg j hlt
   have hlog := Q4x Hr.out _ (Q1s hlt)
   have hbe := Q6q p j hlt
   have hw6 : Q09 (p.regs.getD j default) ≤ 64 := Q4o _ hlog.2
   have hw1 : 0 < Q09 (p.regs.getD j default) := Q97 _
   have Hrl := Lib.hid (Q9y (ws := M.words) hwl hlt)
   have Hrg := Lib.hid (Q7b (p := p) M.words hlt)
   have Htk := Lib.hid (Q9m (l := Q0j p M.words) (j := j) (by rw [Q5o]; exact hlt))
   have Htl : Hid (((Q0j p M.words).take j).length = j) := Lib.hid (by rw [List.length_take, Q5o]; omega)
   obtain ⟨g0, -, -, -, -, -, g6, g17, -, g19⟩ := P.cells
   obtain ⟨kb, capb, hvb, hkb, hbs⟩ := Q2t P.bs (show 0 < (Q10 p).length by rw [Q42]; omega)
   obtain ⟨b19, -⟩ := hbs j _ (by rw [Q42]; omega) (Q8y p hlt)
   simp only [Value.slice.injEq, true_and] at hvb
   obtain ⟨rfl, rfl⟩ := hvb
   have hixb := Qd6 kb p.regs.length obc
   generalize p.regs.getD j default = rg0 at *
   clear hE P hrow hc1 hc2 hbs
   go_wp2_with fail
   (with_reducible refine (Q44 rg0 hlog.1 hlog.2 wr).mono ?_)
   rintro e w1 ⟨rfl, hx⟩
   generalize Q09 rg0 = L at *
   have X := Lib.hid (X.out.trans hx)
   have PP := Lib.hid (PP.out.ext hx)
   have bR := Lib.hid (bR.out.ext hx)
   have hMo := Lib.hid (hMo.out.below (Below.mono hx (Nat.le_refl _)))
   have g6 := Q06 hx g6
   have g17 := Q06 hx g17
   have hWr1 := hx.size
   obtain ⟨kw, capw, hvw, hkw, hws⟩ := Q2t PP.out.ws (show 0 < M.words.length by omega)
   subst hvw
   have hcapw := Qbi PP.out.ws
   obtain ⟨vs, q1, q2, q3, q4, q5⟩ := hMo.out
   rw [Htl.out] at q2
   obtain ⟨om, omc, rfl⟩ := Q14 q2
   have hBW : wB.heap.size ≤ W0.heap.size := by omega
   have hwr : IntKind.i64.wrap ((Q07 p j : Int) + (L : Int)) = (Q07 p j : Int) + (L : Int) := Go.IntWalk.i64_in _ (by omega)
   have Hws := Lib.hid hws
   have hsA : 0 ≤ (Q07 p j : Int) + (L : Int) := by omega
   have hsB : (Q07 p j : Int) + (L : Int) ≤ (capw : Int) := by have := hcapw.1; omega
   have hsC : ((Q07 p j : Int) + (L : Int)).toNat = Q07 p j + L := by omega
   have hsD : ¬ capw = Q07 p j := by have := hcapw.1; omega
   clear hx e0 e1 g0 g19 b19 hws
   go_upto_region 5 with fail
   have k6 : ∀ W, Ext w1 W → W.cell? ⟨g, 6, none⟩ = some (.slice om j omc) := fun _ h => h.kept g6.1
   have k17 : ∀ W, Ext w1 W → W.cell? ⟨g, 17, none⟩ = some (.slice (some ⟨kw, 0, none⟩) M.words.length capw) := fun _ h => h.kept g17.1
   refine Q1x [16, 17, 18, 19, 20, 21, 22] 2 (by kernel_rfl) (by kernel_rfl) ?_
   repeat (first | (refine Q2a ?_ ?_; (decide)) | (refine Q21 ?_ ?_ ?_; (decide); (first | rfl | (focus (go_simp; done))); apply Exists.intro; refine ⟨fun wc hE => ?_, ?_⟩; (go_simp; exact rfl); go_simp) | (refine Q28 ?_ ?_ ?_; (decide); (focus (go_simp; done)); go_simp))
   refine Q29 ?_
   intro w2 hx
   clear k6 k17
   have X2 := X.out.trans hx
   have hsrc := Q9v Hws.out Hrg.out Hrl.out (show Q07 p j + L ≤ M.words.length by omega) hx
   have Hsrc := Lib.hid hsrc
   refine Q30 rfl ?_
   go_wp2_with fail
   (with_reducible refine (Q39 Hsrc.out (by omega)).mono ?_)
   rintro e w3 ⟨v', rfl, hv', hx3⟩
   obtain ⟨o3, c3, rfl⟩ := Q14 hv'
   have hx13 := hx.trans hx3
   have hat1 : ∀ b, (Value.slice o3 L c3).ownBlock = some b → w1.heap.size ≤ b := fun b hb => Nat.le_trans hx.size (Q2c hv' b hb)
   have hv' := Q35 hv' (show W0.heap.size ≤ w2.heap.size by have := hx.size; omega)
   go_wp2
   try refine ⟨hx13, ?_⟩
   refine Q30 rfl ?_
   go_wp2
   try refine ⟨hx13.alloc _, ?_⟩
   refine Q1h (Q08 rfl (Q08 rfl (Q08 rfl (Q08 rfl (Q08 rfl (Q1q)))))) ?_
   refine Q3f _ rfl _ _ 26 rfl W0.heap.size 57 j0 _ 1 24 Try.underlying26 hj0 hy0 hy1 hy2 rfl (by decide) _ _ _ rfl (Q62 (Q27 q2 hx13)) (some ⟨w3.heap.size, 0, none⟩) 1 1 [.slice o3 L c3] rfl ?c1 ?c3 ?c4 ?c5 ?_
   case c1 => exact Q4t (size := 1) (Blk.new w3 57 #[.slice o3 L c3]) rfl (by simp [Value.oneCell'])
   case c3 => unfold maxLen; omega
   case c4 => omega
   case c5 => have := hx13.size; simp; omega
   intro v2' w4 hown hgrow hat
   clear hat
   obtain ⟨o5, c5, rfl⟩ := Q14 hown
   obtain ⟨v2, hv2⟩ : ∃ v2, v2 = Value.slice o5 (j + 1) c5 := ⟨_, rfl⟩
   rw [← hv2] at hown
   have hgrow : (w3.alloc (.cells #[.slice o3 L c3] 57)).grownBy w4 (Value.slice om j omc).ownBlock := hgrow
   have hxa := hx13.alloc (.cells #[.slice o3 L c3] 57)
   have q2a : (w3.alloc (.cells #[.slice o3 L c3] 57)).ownsRow W0.heap.size 57 1 (.slice om j omc) j vs := Q27 q2 hxa
   have HM4 : Hid (Q15 w4 W0.heap.size w4.heap.size 57 2 v2 ((Q0j p M.words).take (j + 1))) := Lib.hid (by
    rw [Htk.out]
    exact Qbv (wr := w1) (w1 := w3) (out := .slice om j omc) (by decide) q1 (by rw [Htl.out]; exact q2) (fun i hi => (q4 i hi).1) q5 hxa (Q62 (by rw [Hrl.out]; exact hv')) hat1 (by rw [Htl.out]; exact hown) hgrow)
   have P4 := (PP.out.ext hxa).grown_mem q2a hgrow
   have bR4 := (bR.out.ext hxa).grown hgrow (Q0d q2a (bR.out.ext hxa) (by decide))
   have X4 := (X.out.trans hxa).grown hgrow (fun k hk => Nat.le_trans hBW (Q2c q2a k hk))
   have hWr4 : W0.heap.size ≤ w4.heap.size := by have := hgrow.size; have := hxa.size; omega
   obtain ⟨-, -, -, -, -, -, g6, -, -, -⟩ := P4.cells
   have hg4 := P4.box.lt
   have P5 := Lib.hid (P4.mem_ v2)
   have bR5 := Lib.hid (bR4.far (p := ⟨g, 6, none⟩) hgr.symm v2)
   have X5 := Lib.hid (X4.setCell (p := ⟨g, 6, none⟩) PP.out.hg v2)
   have HM5 : Hid (Q15 (w4.setCell ⟨g, 6, none⟩ v2) W0.heap.size (w4.setCell ⟨g, 6, none⟩ v2).heap.size 57 2 v2 ((Q0j p M.words).take (j + 1))) := Lib.hid (by
    rw [Q22]
    exact HM4.out.far (p := ⟨g, 6, none⟩) (by have := Hgr.out; have := HW0.out; simp only; omega) v2)
   have hWr5 : W0.heap.size ≤ (w4.setCell ⟨g, 6, none⟩ v2).heap.size := by rw [Q22]; exact hWr4
   have HWr5 := Lib.hid hWr5
   subst hv2
   clear hown hgrow hxa q2a P4 bR4 X4 hWr4 hWr5 hx hx3 hx13 hv' hat1
   go_wp2
   go_roundw
   case rel => exact ⟨j + 1, _, by omega, by go_num, P5.out, HM5.out, X5.out, bR5.out, HWr5.out⟩
   case measure => first | (simp [intOf]; done) | (simp [intOf]; omega)
  ·have hje : j = p.regs.length := by omega
   subst hje
   have hlt2 : decide ((p.regs.length : Int) < (p.regs.length : Int)) = false := by simp
   have hMo : Hid (Q15 wr W0.heap.size wr.heap.size 57 2 vM (Q0j p M.words)) := Lib.hid (by
    have := hMo.out
    rw [List.take_of_length_le (by rw [Q5o]; omega)] at this
    exact this)
   obtain ⟨-, -, g2, g3, g4, g5, g6, -, -, -⟩ := P.cells
   have r0 : wr.cell? ⟨r, 0, none⟩ = some (.int .i64 0) ∧ wr.frozen? ⟨r, 0, none⟩ = false := ⟨by rw [bR.out.cell]; rfl, bR.out.frozen _⟩
   have r1 : wr.cell? ⟨r, 1, none⟩ = some (.int .i64 0) ∧ wr.frozen? ⟨r, 1, none⟩ = false := ⟨by rw [bR.out.cell]; rfl, bR.out.frozen _⟩
   have r2 : wr.cell? ⟨r, 2, none⟩ = some (.int .i64 0) ∧ wr.frozen? ⟨r, 2, none⟩ = false := ⟨by rw [bR.out.cell]; rfl, bR.out.frozen _⟩
   have r3 : wr.cell? ⟨r, 3, none⟩ = some (.slice none 0 0) ∧ wr.frozen? ⟨r, 3, none⟩ = false := ⟨by rw [bR.out.cell]; rfl, bR.out.frozen _⟩
   have r4 : wr.cell? ⟨r, 4, none⟩ = some (.slice none 0 0) ∧ wr.frozen? ⟨r, 4, none⟩ = false := ⟨by rw [bR.out.cell]; rfl, bR.out.frozen _⟩
   have hrl := bR.out.lt
   obtain ⟨ov, ovc, rfl⟩ := Q14 P.sn
   obtain ⟨om, omc, rfl⟩ : ∃ a c, vM = .slice a (Q0j p M.words).length c := by
    obtain ⟨vs, h1, h2, -⟩ := hMo.out
    exact Q14 h2
   clear P hE hlt
   go_wp2
   have hE := Qdr (PP.out) hMo.out (show wB.heap.size ≤ W0.heap.size by have := HW0.out; have := HBr.out; omega) bR.out HBr.out (show r < W0.heap.size by have := HW0.out; omega) X.out rfl
   have HE := Lib.hid hE
   clear hE
   exact bodyPost_ret (Q7s (HE.out.1) rfl _ rfl Try.underlying34 rfl (by kernel_rfl)) rfl ⟨_, rfl, HE.out.2⟩
def ten : Array Value := regV (List.replicate 10 0)
def mayE (p : Q00) (m : List (List Int)) (fuel : Int) : Int := if (Q2w p && Q2e p m) = false then 2 else if fuel < 0 ∨ 40000 < fuel then 3 else 0
theorem Q8f {p : Q00} {m : List (List Int)} {fuel : Int} (h : mayE p m fuel = 0) : Q2w p = true ∧ Q2e p m = true ∧ 0 ≤ fuel ∧ fuel ≤ 40000 := by
 unfold mayE at h
 split at h
 ·cases h
 ·rename_i h1
  split at h
  ·cases h
  ·rename_i h2
   simp only [Bool.not_eq_false, Bool.and_eq_true] at h1
   exact ⟨h1.1, h1.2, by omega, by omega⟩
set_option maxHeartbeats 1000000 in
theorem Qby (p : Q00) (m : List (List Int)) (fuel : Int) (v vm : Value) (w : World) (hp : Q1u w v p) (hm : Q1v w vm m) (hf : R64 fuel) :
  Calls Try.prog 15 #[v, vm, .int .i64 fuel] w fun e w' => e = .returned (.int .i64 (mayE p m fuel)) ∧ Ext w w' := by
 have HP := Lib.hid hp
 have HM := Lib.hid hm
 obtain ⟨a0, a1, a2, b0, b1, b2, rfl⟩ := Q61 hp
 have hf0 := hf.1
 have hf1 := hf.2
 clear hp hm
 go_enter Try.func15, Try.ntmps15
 go_wp2_with fail
 obtain ⟨W, g, hg, hW, hx, bA⟩ := Q5g w #[.slice a0 a1 a2, .slice b0 b1 b2] 25
 rw [hW, hg]
 have X := Lib.hid hx
 clear hW hg hx
 have C := Qdb p _ W (HP.out.ext X.out)
 cases hh : Q2w p
 ·rw [hh] at C
  have Hh := Lib.hid hh
  clear hh
  (with_reducible refine C.mono ?_)
  rintro e w1 ⟨rfl, h1⟩
  have X := Lib.hid (X.out.trans h1)
  clear h1 C
  go_wp2
  go_ret
  exact ⟨Q2b (by unfold mayE; simp [Hh.out]), X.out⟩
 rw [hh] at C
 have Hh := Lib.hid hh
 clear hh
 (with_reducible refine C.mono ?_)
 rintro e w1 ⟨rfl, h1⟩
 have bA := bA.ext h1
 have X := Lib.hid (X.out.trans h1)
 have c0 : w1.cell? ⟨g, 0, none⟩ = some (.slice a0 a1 a2) := by rw [bA.cell]; rfl
 have c1 : w1.cell? ⟨g, 1, none⟩ = some (.slice b0 b1 b2) := by rw [bA.cell]; rfl
 clear h1 C
 go_wp2_with fail
 have C := Qcj p _ m vm w1 (HP.out.ext X.out) (HM.out.ext X.out)
 cases hh : Q2e p m
 ·rw [hh] at C
  have Hf := Lib.hid hh
  clear hh
  (with_reducible refine C.mono ?_)
  rintro e w2 ⟨rfl, h1⟩
  have X := Lib.hid (X.out.trans h1)
  clear h1 C
  go_wp2
  go_ret
  exact ⟨Q2b (by unfold mayE; simp [Hf.out]), X.out⟩
 rw [hh] at C
 have Hf := Lib.hid hh
 clear hh
 (with_reducible refine C.mono ?_)
 rintro e w2 ⟨rfl, h1⟩
 have X := Lib.hid (X.out.trans h1)
 clear h1 C c0 c1
 by_cases q0 : fuel < 0
 ·have Q := Lib.hid q0
  go_wp2
  go_ret
  exact ⟨Q2b (by unfold mayE; simp [Hh.out, Hf.out, Q.out]), X.out⟩
 have q0d : decide (fuel < 0) = false := by simpa using q0
 by_cases q1 : 40000 < fuel
 ·have Q := Lib.hid q1
  go_wp2
  go_ret
  exact ⟨Q2b (by unfold mayE; simp [Hh.out, Hf.out, Q.out]), X.out⟩
 have q1d : decide (40000 < fuel) = false := by simpa using q1
 have Q := Lib.hid (show ¬ (fuel < 0 ∨ 40000 < fuel) by omega)
 go_wp2
 go_ret
 exact ⟨Q2b (by unfold mayE; rw [if_neg (by simp [Hh.out, Hf.out]), if_neg Q.out]), X.out⟩
theorem Q4w {P : Program} {w : World} {g : Nat} {T t p ty : Nat} {cs : Array Value} {fn : Func} {d : TypeDesc} {v : Value} (h : Blk w g T cs) (hr : fn.results = #[.cell p ty, .tmp t]) (tmps : Array Value) (ht : tmps.getD t undef = v) (hp : tmps.getD p undef = .pointer (some ⟨g, 0, none⟩))
  (hu : P.underlying ty = some d) (hd : d.isRow = true) (hi : (P.info? ty).map (·.size) = some cs.size) : (results fn tmps).run P w = .ok (.tuple #[.agg cs, v]) w := by
 have hp' : tmps[p]?.getD undef = .pointer (some ⟨g, 0, none⟩) := by simpa using hp
 have ht' : tmps[t]?.getD undef = v := by simpa using ht
 have hc : w.rangeAt g 0 cs.toList := h.range 0 cs.toList (fun j v hv => by simpa using hv)
 have := run_loadVar_mid w g 0 ty cs.toList d hc hu hd (by simpa using hi)
 simp only [Array.toArray_toList] at this
 simp [results, hr, hp', ht', asAddr, this]
def Q4g (w : World) (g : Nat) : Nat := match w.cell? ⟨g, 4, none⟩ with
 | some (.int _ n) => n.toNat
 | _ => 0
theorem Qcb {w : World} {B g : Nat} {vR vC vM vB vS vW : Value} {bases : List Int} {M : Mach} (h : MSt w B g vR vC vM vB vS vW bases M) : Q4g w g = M.steps := by
 unfold Q4g
 rw [h.cells.2.2.2.2.1.1]
 simp
theorem Qbx (w : World) : Q1v w (.slice none 0 0) [] := ⟨none, 0, 0, 0, rfl, by simp, by decide, fun _ => undef, ⟨fun h => by simp at h, fun i j hi hj => by simp at hi⟩, fun i hi => by simp at hi⟩
theorem Q5s (w : World) : Q2f w (.agg #[.int .i64 0, .int .i64 0, .int .i64 0, .slice none 0 0, .slice none 0 0]) 0 0 0 [] [] := ⟨_, _, rfl, Qae w, Qbx w⟩
theorem Qa5 {p : Q00} {F : Mach} {wB w0 w1 : World} {r : Nat} {vs vm x0 x1 x2 x3 x4 : Value} (hS : Q3b w1 wB.heap.size (.agg #[.int .i64 F.fin, .int .i64 F.value, .int .i64 F.steps, vs, vm]) F.fin F.value F.steps F.seen (Q0j p F.words)) (h64 : Q0s F.words)
  (hR : Blk w1 r 34 #[x0, x1, x2, x3, x4]) (hr : r < wB.heap.size) (hr0 : w0.heap.size ≤ r) (hx : Ext w0 wB) (hx1 : Ext wB w1) {w2 : World}
  (hw : w2 = ((((w1.setCell ⟨r, 0, none⟩ (.int .i64 F.fin)).setCell ⟨r, 1, none⟩ (.int .i64 F.value)).setCell ⟨r, 2, none⟩ (.int .i64 F.steps)).setCell ⟨r, 3, none⟩ vs).setCell ⟨r, 4, none⟩ vm) :
  Blk w2 r 34 #[.int .i64 F.fin, .int .i64 F.value, .int .i64 F.steps, vs, vm] ∧ Q2f w2 (.agg #[.int .i64 F.fin, .int .i64 F.value, .int .i64 F.steps, vs, vm]) F.fin F.value F.steps F.seen (Q0j p F.words) ∧ Ext w0 w2 := by
 subst hw
 refine ⟨((((hR.set_ 0 _).set_ 1 _).set_ 2 _).set_ 3 _).set_ 4 _, ?_, ?_⟩
 ·exact (((((hS.far (p := ⟨r, 0, none⟩) hr _).far (p := ⟨r, 1, none⟩) hr _).far (p := ⟨r, 2, none⟩) hr _).far (p := ⟨r, 3, none⟩) hr _).far (p := ⟨r, 4, none⟩) hr _).at_ (Q98 p _ R64 h64.mem)
 ·exact (((((hx.trans hx1).setCell hr0 _).setCell hr0 _).setCell hr0 _).setCell hr0 _).setCell hr0 _
section
variable {wB w w' : World} {g : Nat} {vG vC : Value} {V : RV} {S : Spc}
end
section
variable {wB w w' : World} {g : Nat} {vG vC vM : Value} {V : RV} {S : Spc} {ms : List (List Int)} {us : List Value}
end
def Q2i (l : List Int) : Bool := decide (l.length ≤ 2000) && l.all fun x => decide (0 ≤ x)
theorem Q8m {oa : Option Addr} {n b o cap : Nat} (h : 0 < n → oa = some ⟨b, o, none⟩) (W : World) (i : Int) (h0 : 0 ≤ i) (h1 : i < n) :
  (Instr.indexAt 32 (.slice oa n cap) (.int .i64 i)).run Try.prog W = .ok (.pointer (some ⟨b, o + i.toNat * 3, none⟩)) W := by
 obtain rfl := h (by omega)
 have hs : (Try.prog.info? 45).map (·.size) = some 3 := by kernel_rfl
 simp [Instr.indexAt, run_underlying Try.underlying32, asIntOf, h0, h1]
 exact Q2m b o _
theorem Q7f {w : World} {v : Value} {fin value : Int} {steps : Nat} {seen : List LSee} {mem : List (List Int)} (h : Q2f w v fin value steps seen mem) :
  ∃ a c b d, v = .agg #[.int .i64 fin, .int .i64 value, .int .i64 steps, .slice a seen.length c, .slice b mem.length d] := by
 obtain ⟨vs, vm, rfl, ⟨oa, cap, b, o, rfl, -⟩, ⟨ob, capb, b2, o2, rfl, -⟩⟩ := h
 exact ⟨_, _, _, _, rfl⟩
end Go.Proofs.Ytceocimckkgaoaa
