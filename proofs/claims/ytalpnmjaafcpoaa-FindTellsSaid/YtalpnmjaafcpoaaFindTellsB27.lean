/- Laid together from: Seq6, Ref3d, Seq7, Play5, Play6, Ref3e. -/
import Derived.Test.YtalpnmjaafcpoaaFindTellsB26
import Derived.Test.YtalpnmjaafcpoaaFindTellsB20
import Derived.Test.YtalpnmjaafcpoaaFindTellsB23
import Derived.Test.YtalpnmjaafcpoaaFindTellsB22

namespace Go.Proofs.Ytalpnmjaafcpoaa
open Go.ChangeShapes Go.WideShapes Go.ChangeAt Go.RowKit
set_option linter.unusedVariables false
set_option linter.unusedSimpArgs false
theorem MSt.mem_ {w : World} {B g : Nat} {vR vC vM vB vS vW : Value} {bases : List Int} {M : Mach} (h : MSt w B g vR vC vM vB vS vW bases M) (u : Value) : MSt (w.setCell ⟨g, 6, none⟩ u) B g vR vC u vB vS vW bases M :=
 ⟨by rw [← Qgj (u := u)]; exact h.box.set_ 6 u, Q0o h.sn h.gs u, Q0o h.ws h.gw u, Q0o h.bs h.gb u, h.len, h.hg⟩
def Q4e (w : World) (B : Nat) (v : Value) (fin value : Int) (steps : Nat) (seen : List LSee) (mem : List (List Int)) : Prop :=
 ∃ vs vm U, v = .agg #[.int .i64 fin, .int .i64 value, .int .i64 steps, vs, vm] ∧ w.ownsRow B 79 3 vs seen.length (seen.flatMap Q2g) ∧ Q1q w B U 52 2 vm mem
theorem Q4e.at_ {w : World} {B : Nat} {v : Value} {fin value : Int} {steps : Nat} {seen : List LSee} {mem : List (List Int)} (h : Q4e w B v fin value steps seen mem) (h64 : ∀ l ∈ mem, ∀ x ∈ l, R64 x) : Q2v w v fin value steps seen mem := by
 obtain ⟨vs, vm, U, rfl, h1, h2⟩ := h
 exact ⟨vs, vm, rfl, Q9v h1, h2.mem h64⟩
theorem Q4e.far {w : World} {B : Nat} {v : Value} {fin value : Int} {steps : Nat} {seen : List LSee} {mem : List (List Int)} (h : Q4e w B v fin value steps seen mem) {p : Addr} (hp : p.block < B) (u : Value) : Q4e (w.setCell p u) B v fin value steps seen mem := by
 obtain ⟨vs, vm, U, rfl, h1, h2⟩ := h
 exact ⟨vs, vm, U, rfl, Q0o h1 (fun e => by have := Q1u h1 _ e.symm; omega) u, h2.far hp u⟩
theorem Q3s {w : World} {b b' : Nat} {e : TypeId} {s n : Nat} {v : Value} {xs : List Value} (h : w.ownsRow b e s v n xs) (hb : b' ≤ b) : w.ownsRow b' e s v n xs := by
 refine ⟨h.1, ?_⟩
 rcases h.2 with h | ⟨g, cap, cur, rfl, h1, h2, h3⟩
 ·exact .inl h
 ·exact .inr ⟨g, cap, cur, rfl, by omega, h2, h3⟩
theorem Q1q.mono {w : World} {B B' U : Nat} {T E : TypeId} {v : Value} {m : List (List Int)} (h : Q1q w B U T E v m) (hb : B' ≤ B) : Q1q w B' U T E v m := by
 obtain ⟨vs, h1, h2, h3, h4, h5⟩ := h
 exact ⟨vs, h1, Q3s h2 hb, h3, fun i hi => ⟨Q3s (h4 i hi).1 hb, (h4 i hi).2⟩, h5⟩
def Qj2 (p : Q01) (M : Mach) (wB : World) (e : Ending) (w' : World) : Prop :=
 ∃ u, e = .returned u ∧ Q4e w' wB.heap.size u M.fin M.value M.steps M.seen (Q0q p M.words) ∧ Ext wB w'
theorem Qch {α : Type} [Inhabited α] {l : List α} {j : Nat} (h : j < l.length) : l.take (j + 1) = l.take j ++ [l.getD j default] := by
 rw [List.take_succ_eq_append_getElem h]; simp [h]
theorem Qi5 {p : Q01} {M : Mach} {wB w1 : World} {D g r : Nat} {vR vC vM vB vS vW x0 x1 x2 x3 x4 : Value} (P : MSt w1 wB.heap.size g vR vC vM vB vS vW (Q1g p) M) (hM : Q1q w1 D w1.heap.size 52 2 vM (Q0q p M.words)) (hBD : wB.heap.size ≤ D)
  (hR : Blk w1 r 30 #[x0, x1, x2, x3, x4]) (hrB : wB.heap.size ≤ r) (hrD : r < D) (hx : Ext wB w1) {w2 : World}
  (hw : w2 = ((((w1.setCell ⟨r, 0, none⟩ (.int .i64 M.fin)).setCell ⟨r, 1, none⟩ (.int .i64 M.value)).setCell ⟨r, 2, none⟩ (.int .i64 M.steps)).setCell ⟨r, 3, none⟩ vS).setCell ⟨r, 4, none⟩ vM) :
  Blk w2 r 30 #[.int .i64 M.fin, .int .i64 M.value, .int .i64 M.steps, vS, vM] ∧ Q4e w2 wB.heap.size (.agg #[.int .i64 M.fin, .int .i64 M.value, .int .i64 M.steps, vS, vM]) M.fin M.value M.steps M.seen (Q0q p M.words) ∧ Ext wB w2 := by
 subst hw
 have hne := Q06 P.sn hR (by decide)
 refine ⟨((((hR.set_ 0 _).set_ 1 _).set_ 2 _).set_ 3 _).set_ 4 _, ⟨vS, vM, w1.heap.size, rfl, Q0o (Q0o (Q0o (Q0o (Q0o P.sn hne _) hne _) hne _) hne _) hne _, ?_⟩, ?_⟩
 ·exact (((((hM.far (p := ⟨r, 0, none⟩) hrD _).far (p := ⟨r, 1, none⟩) hrD _).far (p := ⟨r, 2, none⟩) hrD _).far (p := ⟨r, 3, none⟩) hrD _).far (p := ⟨r, 4, none⟩) hrD _).mono hBD
 ·exact ((((hx.setCell hrB _).setCell hrB _).setCell hrB _).setCell hrB _).setCell hrB _
theorem Q7l {w w2 : World} {k : Nat} {ws l : List Int} {base L : Nat} (h : ∀ j x, j < ws.length → (ws.map (Value.int .i64))[j]? = some x → w.cell? ⟨k, j, none⟩ = some x ∧ w.frozen? ⟨k, j, none⟩ = false) (hl : l = (ws.drop base).take L) (hL : l.length = L) (hb : base + L ≤ ws.length) (hx : Ext w w2) :
  Src w2 1 (some ⟨k, base, none⟩) L (l.map (Value.int .i64)) := by
 refine ⟨by rw [List.length_map, hL, Nat.mul_one], (fun h => by cases h), fun ad ha q u hu => ?_, fun u hu => ?_⟩
 ·obtain rfl := Option.some.inj ha
  rw [Addr.add_lit]
  have hq : q < L := by
   have := (List.getElem?_eq_some_iff.1 hu).1
   rw [List.length_map, hL] at this
   exact this
  refine hx.kept (h (base + q) u (by omega) ?_).1
  rw [← hu, hl, List.getElem?_map, List.getElem?_map, List.getElem?_take_of_lt hq, List.getElem?_drop]
 ·simp only [List.mem_map] at hu
  obtain ⟨y, -, rfl⟩ := hu
  rfl
theorem MSt.grown_mem {w w' : World} {B D g n : Nat} {vR vC vM vB vS vW u : Value} {bases : List Int} {M : Mach} {xs : List Value} (h : MSt w B g vR vC vM vB vS vW bases M) (hu : w.ownsRow D 52 1 u n xs) (hg : w.grownBy w' u.ownBlock) : MSt w' B g vR vC vM vB vS vW bases M :=
 ⟨h.box.grown hg (Q06 hu h.box (by decide)), Q0y h.sn hg (fun k hk he => Q13 hu h.sn (by decide) k hk he), Q0y h.ws hg (fun k hk he => Q13 hu h.ws (by decide) k hk he), Q0y h.bs hg (fun k hk he => Q13 hu h.bs (by decide) k hk he), h.len, h.hg⟩
theorem Q6o {w : World} {B k n cap : Nat} {e : TypeId} {s : Nat} {xs : List Value} (h : w.ownsRow B e s (.slice (some ⟨k, 0, none⟩) n cap) n xs) : n ≤ cap ∧ cap ≤ maxLen := by
 rcases h.2 with ⟨h0, -⟩ | ⟨k', cap', cur, hh, a1, a2, a3, a4, -⟩
 ·cases h0
 ·simp only [Value.slice.injEq, Option.some.injEq, Addr.mk.injEq, and_true, true_and] at hh
  obtain ⟨rfl, rfl⟩ := hh
  exact ⟨a3, a4⟩
set_option maxRecDepth 100000 in
set_option maxHeartbeats 4000000 in
theorem Qi6 (p : Q01) {wB : World} {g : Nat} {vR vC vB vS vW : Value} {M : Mach} (hr : Q0h p.regs = true) (hok : MOk p M) (w : World) (hp : Q10 wB (.agg #[vR, vC]) p) (hbx : Ext wB w) (h : MSt w wB.heap.size g vR vC (.slice none 0 0) vB vS vW (Q1g p) M) :
  Calls Try.prog 21 #[.pointer (some ⟨g, 0, none⟩)] w (Qj2 p M wB) := by
 have hlen := Q44 hr
 have htt := Q42 hr
 have hwl := hok.wlen
 have H64 := Lib.hid hok.w64
 have Hr := Lib.hid hr
 have H := Lib.hid h
 have HX := Lib.hid hbx
 have hgl := h.box.lt
 have Hgl := Lib.hid hgl
 have HR : Hid (∀ W, Ext wB W → Q4f W vR p.regs) := Lib.hid (by
  obtain ⟨v1, v2, hv, hR, -⟩ := hp
  simp only [Value.agg.injEq, Array.mk.injEq, List.cons.injEq, and_true] at hv
  obtain ⟨rfl, -⟩ := hv
  exact fun W hW => hR.ext hW)
 obtain ⟨oa, cap, rfl⟩ : ∃ a c, vR = .slice a p.regs.length c := by
  obtain ⟨-, oa, cap, b, o, hv, -⟩ := HR.out wB (Ext.refl _)
  exact ⟨oa, cap, hv⟩
 obtain ⟨j0, hj0, hy0, hy1, hy2⟩ := info_parts Q6y
 obtain ⟨ob, obc, rfl⟩ := Q0m h.bs
 have hbl := Q5l p
 obtain ⟨-, -, -, -, -, -, -, -, -, g19⟩ := h.cells
 simp only [hbl] at g19
 clear hok hr h hbx hp
 go_enter Try.func21, Try.ntmps21
 go_wp2_with fail
 obtain ⟨W0, r, hrr, hW, hx, bR⟩ := Q34 w #[.int .i64 0, .int .i64 0, .int .i64 0, .slice none 0 0, .slice none 0 0] 30
 rw [hW, hrr]
 have hWs : W0.heap.size = r + 1 := by rw [← hW, ← hrr]; simp
 have hgr : g ≠ r := by omega
 have Hgr : Hid (g < r) := Lib.hid (by omega)
 have hBr : wB.heap.size ≤ r := by have := HX.out.size; omega
 have P0 := H.out.ext hx
 have X0 := HX.out.trans hx
 have BR := Lib.hid bR
 have HBr := Lib.hid hBr
 clear hW hrr hx bR g19 hgl
 have HW0 := Lib.hid hWs
 go_loopw [11] (fun i wr => ∃ (j : Nat) (vM : Value), j ≤ p.regs.length ∧ i = .int .i64 j ∧ MSt wr wB.heap.size g (.slice oa p.regs.length cap) vC vM (.slice ob (Q1g p).length obc) vS vW (Q1g p) M ∧ Q1q wr W0.heap.size wr.heap.size 52 2 vM ((Q0q p M.words).take j) ∧ Ext wB wr ∧ Blk wr r 30 #[.int .i64 0, .int .i64 0, .int .i64 0, .slice none 0 0, .slice none 0 0] ∧ W0.heap.size ≤ wr.heap.size) (fun i _ => p.regs.length - (intOf i).toNat)
 case atStart => exact ⟨0, _, by omega, rfl, P0, by simpa using Qb5 _ _ _ _ _, X0, BR.out, Nat.le_refl _⟩
 case round =>
  obtain ⟨j, vM, hj, rfl, P, hMo, hE, bR, hWr⟩ := hrel
  have X := Lib.hid hE
  have PP := Lib.hid P
  have bR := Lib.hid bR
  have hMo := Lib.hid hMo
  have hgl := P.box.lt
  by_cases hlt : j < p.regs.length
  ·have hR := HR.out wr hE
   obtain ⟨-, oa', cap', b, o, hv, hc1, hc2, hrow⟩ := hR
   simp only [Value.slice.injEq, true_and] at hv
   obtain ⟨rfl, rfl⟩ := hv
   have hix := Q32 (cap := cap) hrow.at_
   obtain ⟨e0, e1⟩ := hrow.reg j hlt
   have hlog := Q4p Hr.out _ (Q1f hlt)
   have hbe := Q6a p j hlt
   have hw6 : Q09 (p.regs.getD j default) ≤ 64 := Q4i _ hlog.2
   have hw1 : 0 < Q09 (p.regs.getD j default) := Q9a _
   have Hrl := Lib.hid (Qcv (ws := M.words) hwl hlt)
   have Hrg := Lib.hid (Q7m (p := p) M.words hlt)
   have Htk := Lib.hid (Qch (l := Q0q p M.words) (j := j) (by rw [Q4k]; exact hlt))
   have Htl : Hid (((Q0q p M.words).take j).length = j) := Lib.hid (by rw [List.length_take, Q4k]; omega)
   obtain ⟨g0, -, -, -, -, -, g6, g17, -, g19⟩ := P.cells
   obtain ⟨kb, capb, hvb, hkb, hbs⟩ := Q2u P.bs (show 0 < (Q1g p).length by rw [Q5l]; omega)
   obtain ⟨b19, -⟩ := hbs j _ (by rw [Q5l]; omega) (Qbp p hlt)
   simp only [Value.slice.injEq, true_and] at hvb
   obtain ⟨rfl, rfl⟩ := hvb
   have hixb := Qhg kb p.regs.length obc
   generalize p.regs.getD j default = rg0 at *
   clear hE P hrow hc1 hc2 hbs
   go_wp2_with fail
   (with_reducible refine (Q5p rg0 hlog.1 hlog.2 wr).mono ?_)
   rintro e w1 ⟨rfl, hx⟩
   generalize Q09 rg0 = L at *
   have X := Lib.hid (X.out.trans hx)
   have PP := Lib.hid (PP.out.ext hx)
   have bR := Lib.hid (bR.out.ext hx)
   have hMo := Lib.hid (hMo.out.below (Below.mono hx (Nat.le_refl _)))
   have g6 := Q07 hx g6
   have g17 := Q07 hx g17
   have hWr1 := hx.size
   obtain ⟨kw, capw, hvw, hkw, hws⟩ := Q2u PP.out.ws (show 0 < M.words.length by omega)
   subst hvw
   have hcapw := Q6o PP.out.ws
   obtain ⟨vs, q1, q2, q3, q4, q5⟩ := hMo.out
   rw [Htl.out] at q2
   obtain ⟨om, omc, rfl⟩ := Q0m q2
   have hBW : wB.heap.size ≤ W0.heap.size := by omega
   have hwr : IntKind.i64.wrap ((Q0k p j : Int) + (L : Int)) = (Q0k p j : Int) + (L : Int) := Go.IntWalk.i64_in _ (by omega)
   have Hws := Lib.hid hws
   have hsA : 0 ≤ (Q0k p j : Int) + (L : Int) := by omega
   have hsB : (Q0k p j : Int) + (L : Int) ≤ (capw : Int) := by have := hcapw.1; omega
   have hsC : ((Q0k p j : Int) + (L : Int)).toNat = Q0k p j + L := by omega
   have hsD : ¬ capw = Q0k p j := by have := hcapw.1; omega
   clear hx e0 e1 g0 g19 b19 hws
   go_upto_region 5 with fail
   have k6 : ∀ W, Ext w1 W → W.cell? ⟨g, 6, none⟩ = some (.slice om j omc) := fun _ h => h.kept g6.1
   have k17 : ∀ W, Ext w1 W → W.cell? ⟨g, 17, none⟩ = some (.slice (some ⟨kw, 0, none⟩) M.words.length capw) := fun _ h => h.kept g17.1
   refine Q27 [16, 17, 18, 19, 20, 21, 22] 2 (by kernel_rfl) (by kernel_rfl) ?_
   repeat (first | (refine Q2r ?_ ?_; (decide)) | (refine Q2k ?_ ?_ ?_; (decide); (first | rfl | (focus (go_simp; done))); apply Exists.intro; refine ⟨fun wc hE => ?_, ?_⟩; (go_simp; exact rfl); go_simp) | (refine Q2p ?_ ?_ ?_; (decide); (focus (go_simp; done)); go_simp))
   refine Q2q ?_
   intro w2 hx
   clear k6 k17
   have X2 := X.out.trans hx
   have hsrc := Q7l Hws.out Hrg.out Hrl.out (show Q0k p j + L ≤ M.words.length by omega) hx
   have Hsrc := Lib.hid hsrc
   refine Q2m rfl ?_
   go_wp2_with fail
   (with_reducible refine (Q4b Hsrc.out (by omega)).mono ?_)
   rintro e w3 ⟨v', rfl, hv', hx3⟩
   obtain ⟨o3, c3, rfl⟩ := Q0m hv'
   have hx13 := hx.trans hx3
   have hat1 : ∀ b, (Value.slice o3 L c3).ownBlock = some b → w1.heap.size ≤ b := fun b hb => Nat.le_trans hx.size (Q1u hv' b hb)
   have hv' := Q3s hv' (show W0.heap.size ≤ w2.heap.size by have := hx.size; omega)
   go_wp2
   try refine ⟨hx13, ?_⟩
   refine Q2m rfl ?_
   go_wp2
   try refine ⟨hx13.alloc _, ?_⟩
   refine Q20 (Q0j rfl (Q0j rfl (Q0j rfl (Q0j rfl (Q0j rfl (Q24)))))) ?_
   refine Q2e _ rfl _ _ 26 rfl W0.heap.size 52 j0 _ 1 24 Try.underlying26 hj0 hy0 hy1 hy2 rfl (by decide) _ _ _ rfl (Q3t (Q1m q2 hx13)) (some ⟨w3.heap.size, 0, none⟩) 1 1 [.slice o3 L c3] rfl ?c1 ?c3 ?c4 ?c5 ?_
   case c1 => exact Q3l (size := 1) (Blk.new w3 52 #[.slice o3 L c3]) rfl (by simp [Value.oneCell'])
   case c3 => unfold maxLen; omega
   case c4 => omega
   case c5 => have := hx13.size; simp; omega
   intro v2' w4 hown hgrow hat
   clear hat
   obtain ⟨o5, c5, rfl⟩ := Q0m hown
   obtain ⟨v2, hv2⟩ : ∃ v2, v2 = Value.slice o5 (j + 1) c5 := ⟨_, rfl⟩
   rw [← hv2] at hown
   have hgrow : (w3.alloc (.cells #[.slice o3 L c3] 52)).grownBy w4 (Value.slice om j omc).ownBlock := hgrow
   have hxa := hx13.alloc (.cells #[.slice o3 L c3] 52)
   have q2a : (w3.alloc (.cells #[.slice o3 L c3] 52)).ownsRow W0.heap.size 52 1 (.slice om j omc) j vs := Q1m q2 hxa
   have HM4 : Hid (Q1q w4 W0.heap.size w4.heap.size 52 2 v2 ((Q0q p M.words).take (j + 1))) := Lib.hid (by
    rw [Htk.out]
    exact Qg5 (wr := w1) (w1 := w3) (out := .slice om j omc) (by decide) q1 (by rw [Htl.out]; exact q2) (fun i hi => (q4 i hi).1) q5 hxa (Q3t (by rw [Hrl.out]; exact hv')) hat1 (by rw [Htl.out]; exact hown) hgrow)
   have P4 := (PP.out.ext hxa).grown_mem q2a hgrow
   have bR4 := (bR.out.ext hxa).grown hgrow (Q06 q2a (bR.out.ext hxa) (by decide))
   have X4 := (X.out.trans hxa).grown hgrow (fun k hk => Nat.le_trans hBW (Q1u q2a k hk))
   have hWr4 : W0.heap.size ≤ w4.heap.size := by have := hgrow.size; have := hxa.size; omega
   obtain ⟨-, -, -, -, -, -, g6, -, -, -⟩ := P4.cells
   have hg4 := P4.box.lt
   have P5 := Lib.hid (P4.mem_ v2)
   have bR5 := Lib.hid (bR4.far (p := ⟨g, 6, none⟩) hgr.symm v2)
   have X5 := Lib.hid (X4.setCell (p := ⟨g, 6, none⟩) PP.out.hg v2)
   have HM5 : Hid (Q1q (w4.setCell ⟨g, 6, none⟩ v2) W0.heap.size (w4.setCell ⟨g, 6, none⟩ v2).heap.size 52 2 v2 ((Q0q p M.words).take (j + 1))) := Lib.hid (by
    rw [Q2a]
    exact HM4.out.far (p := ⟨g, 6, none⟩) (by have := Hgr.out; have := HW0.out; simp only; omega) v2)
   have hWr5 : W0.heap.size ≤ (w4.setCell ⟨g, 6, none⟩ v2).heap.size := by rw [Q2a]; exact hWr4
   have HWr5 := Lib.hid hWr5
   subst hv2
   clear hown hgrow hxa q2a P4 bR4 X4 hWr4 hWr5 hx hx3 hx13 hv' hat1
   go_wp2
   go_roundw
   case rel => exact ⟨j + 1, _, by omega, by go_num, P5.out, HM5.out, X5.out, bR5.out, HWr5.out⟩
   case measure => first | (simp [intOf]; done) | (simp [intOf]; omega)
  ·have hje : j = p.regs.length := by omega
   subst hje
   have hlt2 : decide ((p.regs.length : Int) < (p.regs.length : Int)) = false := by simp
   have hMo : Hid (Q1q wr W0.heap.size wr.heap.size 52 2 vM (Q0q p M.words)) := Lib.hid (by
    have := hMo.out
    rw [List.take_of_length_le (by rw [Q4k]; omega)] at this
    exact this)
   obtain ⟨-, -, g2, g3, g4, g5, g6, -, -, -⟩ := P.cells
   have r0 : wr.cell? ⟨r, 0, none⟩ = some (.int .i64 0) ∧ wr.frozen? ⟨r, 0, none⟩ = false := ⟨by rw [bR.out.cell]; rfl, bR.out.frozen _⟩
   have r1 : wr.cell? ⟨r, 1, none⟩ = some (.int .i64 0) ∧ wr.frozen? ⟨r, 1, none⟩ = false := ⟨by rw [bR.out.cell]; rfl, bR.out.frozen _⟩
   have r2 : wr.cell? ⟨r, 2, none⟩ = some (.int .i64 0) ∧ wr.frozen? ⟨r, 2, none⟩ = false := ⟨by rw [bR.out.cell]; rfl, bR.out.frozen _⟩
   have r3 : wr.cell? ⟨r, 3, none⟩ = some (.slice none 0 0) ∧ wr.frozen? ⟨r, 3, none⟩ = false := ⟨by rw [bR.out.cell]; rfl, bR.out.frozen _⟩
   have r4 : wr.cell? ⟨r, 4, none⟩ = some (.slice none 0 0) ∧ wr.frozen? ⟨r, 4, none⟩ = false := ⟨by rw [bR.out.cell]; rfl, bR.out.frozen _⟩
   have hrl := bR.out.lt
   obtain ⟨ov, ovc, rfl⟩ := Q0m P.sn
   obtain ⟨om, omc, rfl⟩ : ∃ a c, vM = .slice a (Q0q p M.words).length c := by
    obtain ⟨vs, h1, h2, -⟩ := hMo.out
    exact Q0m h2
   clear P hE hlt
   go_wp2
   have hE := Qi5 (PP.out) hMo.out (show wB.heap.size ≤ W0.heap.size by have := HW0.out; have := HBr.out; omega) bR.out HBr.out (show r < W0.heap.size by have := HW0.out; omega) X.out rfl
   have HE := Lib.hid hE
   clear hE
   exact bodyPost_ret (Q5y (HE.out.1) rfl _ rfl Try.underlying30 rfl (by kernel_rfl)) rfl ⟨_, rfl, HE.out.2⟩
def ten : Array Value := regV (List.replicate 10 0)
theorem Qga (W : World) : (Instr.makeSlice 52 (.int .i64 10) (.int .i64 10)).run Try.prog W = .ok (.slice (some ⟨W.heap.size, 0, none⟩) 10 10) (W.alloc (.cells ten 2)) := by kernel_rfl
def mayE (p : Q01) (m : List (List Int)) (fuel : Int) : Int := if (Q3o p && Q2j p m) = false then 2 else if fuel < 0 ∨ 40000 < fuel then 3 else 0
theorem Q8a {p : Q01} {m : List (List Int)} {fuel : Int} (h : mayE p m fuel = 0) : Q3o p = true ∧ Q2j p m = true ∧ 0 ≤ fuel ∧ fuel ≤ 40000 := by
 unfold mayE at h
 split at h
 ·cases h
 ·rename_i h1
  split at h
  ·cases h
  ·rename_i h2
   simp only [Bool.not_eq_false, Bool.and_eq_true] at h1
   exact ⟨h1.1, h1.2, by omega, by omega⟩
set_option maxHeartbeats 1000000 in
theorem Qg8 (p : Q01) (m : List (List Int)) (fuel : Int) (v vm : Value) (w : World) (hp : Q10 w v p) (hm : Q1w w vm m) (hf : R64 fuel) :
  Calls Try.prog 15 #[v, vm, .int .i64 fuel] w fun e w' => e = .returned (.int .i64 (mayE p m fuel)) ∧ Ext w w' := by
 have HP := Lib.hid hp
 have HM := Lib.hid hm
 obtain ⟨a0, a1, a2, b0, b1, b2, rfl⟩ := Q57 hp
 have hf0 := hf.1
 have hf1 := hf.2
 clear hp hm
 go_enter Try.func15, Try.ntmps15
 go_wp2_with fail
 obtain ⟨W, g, hg, hW, hx, bA⟩ := Q34 w #[.slice a0 a1 a2, .slice b0 b1 b2] 25
 rw [hW, hg]
 have X := Lib.hid hx
 clear hW hg hx
 have C := Qho p _ W (HP.out.ext X.out)
 cases hh : Q3o p
 ·rw [hh] at C
  have Hh := Lib.hid hh
  clear hh
  (with_reducible refine C.mono ?_)
  rintro e w1 ⟨rfl, h1⟩
  have X := Lib.hid (X.out.trans h1)
  clear h1 C
  go_wp2
  go_ret
  exact ⟨Q14 (by unfold mayE; simp [Hh.out]), X.out⟩
 rw [hh] at C
 have Hh := Lib.hid hh
 clear hh
 (with_reducible refine C.mono ?_)
 rintro e w1 ⟨rfl, h1⟩
 have bA := bA.ext h1
 have X := Lib.hid (X.out.trans h1)
 have c0 : w1.cell? ⟨g, 0, none⟩ = some (.slice a0 a1 a2) := by rw [bA.cell]; rfl
 have c1 : w1.cell? ⟨g, 1, none⟩ = some (.slice b0 b1 b2) := by rw [bA.cell]; rfl
 clear h1 C
 go_wp2_with fail
 have C := Qgw p _ m vm w1 (HP.out.ext X.out) (HM.out.ext X.out)
 cases hh : Q2j p m
 ·rw [hh] at C
  have Hf := Lib.hid hh
  clear hh
  (with_reducible refine C.mono ?_)
  rintro e w2 ⟨rfl, h1⟩
  have X := Lib.hid (X.out.trans h1)
  clear h1 C
  go_wp2
  go_ret
  exact ⟨Q14 (by unfold mayE; simp [Hf.out]), X.out⟩
 rw [hh] at C
 have Hf := Lib.hid hh
 clear hh
 (with_reducible refine C.mono ?_)
 rintro e w2 ⟨rfl, h1⟩
 have X := Lib.hid (X.out.trans h1)
 clear h1 C c0 c1
 by_cases q0 : fuel < 0
 ·have Q := Lib.hid q0
  go_wp2
  go_ret
  exact ⟨Q14 (by unfold mayE; simp [Hh.out, Hf.out, Q.out]), X.out⟩
 have q0d : decide (fuel < 0) = false := by simpa using q0
 by_cases q1 : 40000 < fuel
 ·have Q := Lib.hid q1
  go_wp2
  go_ret
  exact ⟨Q14 (by unfold mayE; simp [Hh.out, Hf.out, Q.out]), X.out⟩
 have q1d : decide (40000 < fuel) = false := by simpa using q1
 have Q := Lib.hid (show ¬ (fuel < 0 ∨ 40000 < fuel) by omega)
 go_wp2
 go_ret
 exact ⟨Q14 (by unfold mayE; rw [if_neg (by simp [Hh.out, Hf.out]), if_neg Q.out]), X.out⟩
set_option maxHeartbeats 1000000 in
theorem Qbv (p : Q01) (m : List (List Int)) (fuel : Int) (v vm : Value) (w : World) (hp : Q10 w v p) (hm : Q1w w vm m) (hf : R64 fuel) :
  Calls Try.prog 7 #[v, vm, .int .i64 fuel] w fun e w' => e = .returned (.int .i64 (mayE p m fuel)) ∧ Ext w w' := by
 have HP := Lib.hid hp
 have HM := Lib.hid hm
 obtain ⟨a0, a1, a2, b0, b1, b2, rfl⟩ := Q57 hp
 have hf0 := hf.1
 have hf1 := hf.2
 clear hp hm
 go_enter Try.func7, Try.ntmps7
 go_wp2_with fail
 obtain ⟨W, g, hg, hW, hx, bA⟩ := Q34 w #[.slice a0 a1 a2, .slice b0 b1 b2] 25
 rw [hW, hg]
 have X := Lib.hid hx
 clear hW hg hx
 have C := Qf2 p _ W (HP.out.ext X.out)
 cases hh : Q3o p
 ·rw [hh] at C
  have Hh := Lib.hid hh
  clear hh
  (with_reducible refine C.mono ?_)
  rintro e w1 ⟨rfl, h1⟩
  have X := Lib.hid (X.out.trans h1)
  clear h1 C
  go_wp2
  go_ret
  exact ⟨Q14 (by unfold mayE; simp [Hh.out]), X.out⟩
 rw [hh] at C
 have Hh := Lib.hid hh
 clear hh
 (with_reducible refine C.mono ?_)
 rintro e w1 ⟨rfl, h1⟩
 have bA := bA.ext h1
 have X := Lib.hid (X.out.trans h1)
 have c0 : w1.cell? ⟨g, 0, none⟩ = some (.slice a0 a1 a2) := by rw [bA.cell]; rfl
 have c1 : w1.cell? ⟨g, 1, none⟩ = some (.slice b0 b1 b2) := by rw [bA.cell]; rfl
 clear h1 C
 go_wp2_with fail
 have C := Qf3 p _ m vm w1 (HP.out.ext X.out) (HM.out.ext X.out)
 cases hh : Q2j p m
 ·rw [hh] at C
  have Hf := Lib.hid hh
  clear hh
  (with_reducible refine C.mono ?_)
  rintro e w2 ⟨rfl, h1⟩
  have X := Lib.hid (X.out.trans h1)
  clear h1 C
  go_wp2
  go_ret
  exact ⟨Q14 (by unfold mayE; simp [Hf.out]), X.out⟩
 rw [hh] at C
 have Hf := Lib.hid hh
 clear hh
 (with_reducible refine C.mono ?_)
 rintro e w2 ⟨rfl, h1⟩
 have X := Lib.hid (X.out.trans h1)
 clear h1 C c0 c1
 by_cases q0 : fuel < 0
 ·have Q := Lib.hid q0
  go_wp2
  go_ret
  exact ⟨Q14 (by unfold mayE; simp [Hh.out, Hf.out, Q.out]), X.out⟩
 have q0d : decide (fuel < 0) = false := by simpa using q0
 by_cases q1 : 40000 < fuel
 ·have Q := Lib.hid q1
  go_wp2
  go_ret
  exact ⟨Q14 (by unfold mayE; simp [Hh.out, Hf.out, Q.out]), X.out⟩
 have q1d : decide (40000 < fuel) = false := by simpa using q1
 have Q := Lib.hid (show ¬ (fuel < 0 ∨ 40000 < fuel) by omega)
 go_wp2
 go_ret
 exact ⟨Q14 (by unfold mayE; rw [if_neg (by simp [Hh.out, Hf.out]), if_neg Q.out]), X.out⟩
theorem Q6l {P : Program} {w : World} {g : Nat} {T t p ty : Nat} {cs : Array Value} {fn : Func} {d : TypeDesc} {v : Value} (h : Blk w g T cs) (hr : fn.results = #[.cell p ty, .tmp t]) (tmps : Array Value) (ht : tmps.getD t undef = v) (hp : tmps.getD p undef = .pointer (some ⟨g, 0, none⟩))
  (hu : P.underlying ty = some d) (hd : d.isRow = true) (hi : (P.info? ty).map (·.size) = some cs.size) : (results fn tmps).run P w = .ok (.tuple #[.agg cs, v]) w := by
 have hp' : tmps[p]?.getD undef = .pointer (some ⟨g, 0, none⟩) := by simpa using hp
 have ht' : tmps[t]?.getD undef = v := by simpa using ht
 have hc : w.rangeAt g 0 cs.toList := h.range 0 cs.toList (fun j v hv => by simpa using hv)
 have := run_loadVar_mid w g 0 ty cs.toList d hc hu hd (by simpa using hi)
 simp only [Array.toArray_toList] at this
 simp [results, hr, hp', ht', asAddr, this]
def Q62 (w : World) (g : Nat) : Nat := match w.cell? ⟨g, 4, none⟩ with
 | some (.int _ n) => n.toNat
 | _ => 0
theorem Qgo {w : World} {B g : Nat} {vR vC vM vB vS vW : Value} {bases : List Int} {M : Mach} (h : MSt w B g vR vC vM vB vS vW bases M) : Q62 w g = M.steps := by
 unfold Q62
 rw [h.cells.2.2.2.2.1.1]
 simp
theorem Qg6 (w : World) : Q1w w (.slice none 0 0) [] := ⟨none, 0, 0, 0, rfl, by simp, by decide, fun _ => undef, ⟨fun h => by simp at h, fun i j hi hj => by simp at hi⟩, fun i hi => by simp at hi⟩
theorem Q7p (w : World) : Q2v w (.agg #[.int .i64 0, .int .i64 0, .int .i64 0, .slice none 0 0, .slice none 0 0]) 0 0 0 [] [] := ⟨_, _, rfl, Qdn w, Qg6 w⟩
theorem Qd1 {p : Q01} {F : Mach} {wB w0 w1 : World} {r : Nat} {vs vm x0 x1 x2 x3 x4 : Value} (hS : Q4e w1 wB.heap.size (.agg #[.int .i64 F.fin, .int .i64 F.value, .int .i64 F.steps, vs, vm]) F.fin F.value F.steps F.seen (Q0q p F.words)) (h64 : Q0v F.words)
  (hR : Blk w1 r 30 #[x0, x1, x2, x3, x4]) (hr : r < wB.heap.size) (hr0 : w0.heap.size ≤ r) (hx : Ext w0 wB) (hx1 : Ext wB w1) {w2 : World}
  (hw : w2 = ((((w1.setCell ⟨r, 0, none⟩ (.int .i64 F.fin)).setCell ⟨r, 1, none⟩ (.int .i64 F.value)).setCell ⟨r, 2, none⟩ (.int .i64 F.steps)).setCell ⟨r, 3, none⟩ vs).setCell ⟨r, 4, none⟩ vm) :
  Blk w2 r 30 #[.int .i64 F.fin, .int .i64 F.value, .int .i64 F.steps, vs, vm] ∧ Q2v w2 (.agg #[.int .i64 F.fin, .int .i64 F.value, .int .i64 F.steps, vs, vm]) F.fin F.value F.steps F.seen (Q0q p F.words) ∧ Ext w0 w2 := by
 subst hw
 refine ⟨((((hR.set_ 0 _).set_ 1 _).set_ 2 _).set_ 3 _).set_ 4 _, ?_, ?_⟩
 ·exact (((((hS.far (p := ⟨r, 0, none⟩) hr _).far (p := ⟨r, 1, none⟩) hr _).far (p := ⟨r, 2, none⟩) hr _).far (p := ⟨r, 3, none⟩) hr _).far (p := ⟨r, 4, none⟩) hr _).at_ (Q9b p _ R64 h64.mem)
 ·exact (((((hx.trans hx1).setCell hr0 _).setCell hr0 _).setCell hr0 _).setCell hr0 _).setCell hr0 _
theorem Qfc {i : LIns} (h : i.op = 3 ∨ i.op = 4 ∨ i.op = 5 ∨ i.op = 6) : putV i.op = putN i := by
 unfold putV putN Q15
 rcases h with h | h | h | h <;> simp [h]
set_option maxRecDepth 100000 in
set_option maxHeartbeats 8000000 in
theorem Qdu {wB w : World} {g : Nat} {vG vC : Value} {V : RV} {S : Spc} {p : Q01} {N : Nat} (i : LIns) (hi : Q00 p 10 i = true) (hfi : i.fits) (hr : Q0h p.regs = true) (hp : Q10 wB (.agg #[vG, vC]) p) (hm : SMid p N S) (hN : N ≤ 1000000)
  (hat : S.pl.at_ < p.code.length) (hcl : p.code.length ≤ 1000000) (hsn : S.seen.length ≤ 900000) (h : RSt wB w g vG vC V S) :
  Calls Try.prog 27 #[.pointer (some ⟨g, 0, none⟩), insV i] w (Q5n wB w g vG vC (doS p i S) (.bool (Q1c i S))) := by
 have htt := Q42 hr
 have Hp := Lib.hid hp
 have Hr := Lib.hid hr
 have Hi := Lib.hid hi
 have Hfi := Lib.hid hfi
 have Hm := Lib.hid hm
 have H := Lib.hid h
 have Hat := Lib.hid hat
 have Hl := Lib.hid hm.pl.len
 have Hsn := Lib.hid hsn
 have hgl := h.box.lt
 have HT : Hid (doS p i S = doS p i S) := Lib.hid rfl
 have HO : Hid (Q1c i S = Q1c i S) := Lib.hid rfl
 generalize hT : doS p i S = T at *
 generalize hO : Q1c i S = ob at *
 replace HT := Lib.hid hT
 replace HO := Lib.hid hO
 obtain ⟨op, a, b, c, n⟩ := i
 unfold insV
 simp only
 clear hp hr hi hfi hm h hsn hT hO
 go_enter Try.func27, Try.ntmps27
 go_upto_region 1 with fail
 obtain ⟨w0, e, he, hW, hs0, hx0, c0, c1, c2, c3, c4⟩ := new5 w 71 (.int .i64 op) (.int .i64 a) (.int .i64 b) (.int .i64 c) (.int .i64 n)
 have bI : Blk w0 e 71 #[.int .i64 op, .int .i64 a, .int .i64 b, .int .i64 c, .int .i64 n] := by rw [← hW, ← he]; exact Blk.new _ _ _
 rw [hW, he]
 have X := Lib.hid hx0
 have hge : g ≠ e := by omega
 clear hW hs0 hx0 he
 go_wp2_with fail
 have C := Qem ⟨op, a, b, c, n⟩ w0
 simp only [insV] at C
 (with_reducible refine C.mono ?_)
 clear C
 rintro er w1 ⟨rfl, hx⟩
 have X := Lib.hid (X.out.trans hx)
 have bI := bI.ext hx
 have BI := Lib.hid bI
 have P := Lib.hid (H.out.extend X.out)
 have i0 : w1.cell? ⟨e, 0, none⟩ = some (.int .i64 op) := by rw [bI.cell]; rfl
 have i1 : w1.cell? ⟨e, 1, none⟩ = some (.int .i64 a) := by rw [bI.cell]; rfl
 have i2 : w1.cell? ⟨e, 2, none⟩ = some (.int .i64 b) := by rw [bI.cell]; rfl
 have i3 : w1.cell? ⟨e, 3, none⟩ = some (.int .i64 c) := by rw [bI.cell]; rfl
 have i4 : w1.cell? ⟨e, 4, none⟩ = some (.int .i64 n) := by rw [bI.cell]; rfl
 have g3 : w1.cell? ⟨g, 3, none⟩ = some (.int .i64 (S.pl.at_ : Int)) ∧ w1.frozen? ⟨g, 3, none⟩ = false := ⟨by rw [P.out.box.cell]; rfl, P.out.box.frozen _⟩
 have g12 : w1.cell? ⟨g, 12, none⟩ = some (.bool S.ahead) := by rw [P.out.box.cell]; rfl
 have hgl1 := P.out.box.lt
 have hel1 := bI.lt
 have hcw : (S.pl.at_ : Int) + 1 ≤ 1000000 := by omega
 clear hx bI c0 c1 c2 c3 c4 hgl
 simp only
 by_cases h7 : op = 7
 ·subst h7
  have hn := (Q3d Hi.out).2.2.2.2.2.2.2.2.2.1 (.inl rfl)
  simp only at hn
  have Hn : Hid (n = ((n.toNat : Nat) : Int)) := Lib.hid (by omega)
  have HTs : Hid (T = S.goTo n.toNat) := Lib.hid (by rw [← HT.out]; unfold doS; rw [if_pos rfl])
  have HOs : Hid (ob = false) := Lib.hid (by rw [← HO.out]; simp [Q1c])
  have P2 := P.out.at__ n.toNat
  have T2 := (Q03.ofExt X.out).trans (P.out.stays 3 (.int .i64 ((n.toNat : Nat) : Int)))
  rw [← Hn.out] at P2 T2
  have P2 := Lib.hid P2
  have T2 := Lib.hid T2
  clear hn
  go_wp2
  go_ret
  rw [HTs.out, HOs.out]
  exact ⟨rfl, _, P2.out, T2.out⟩
 by_cases h8 : op = 8
 ·subst h8
  have hn := (Q3d Hi.out).2.2.2.2.2.2.2.2.2.1 (.inr rfl)
  obtain ⟨ha, hb, -, -⟩ := (Q3d Hi.out).2.2.2.2.2.1 rfl
  simp only at hn ha hb
  have Hn : Hid (n = ((n.toNat : Nat) : Int)) := Lib.hid (by omega)
  have hnl : n.toNat ≤ p.code.length := by omega
  have HOs : Hid (ob = false) := Lib.hid (by rw [← HO.out]; simp [Q1c])
  obtain ⟨a0, a1⟩ := Q0l.1 ha
  obtain ⟨b0, b1⟩ := Q0l.1 hb
  obtain ⟨kR, cR, Y, hvR, hbR, hkg⟩ := P.out.regRow Hl.out
  obtain ⟨ra, -⟩ := Q1s hbR Hl.out ha
  obtain ⟨rb, -⟩ := Q1s hbR Hl.out hb
  obtain ⟨va0, va1⟩ := rg64 Hm.out.pl.r64 a
  obtain ⟨vb0, vb1⟩ := rg64 Hm.out.pl.r64 b
  have k0 : ∀ W, Ext w1 W → W.cell? ⟨g, 0, none⟩ = some (.slice (some ⟨kR, 0, none⟩) 10 cR) := fun _ h => h.kept (by rw [P.out.box.cell, ← hvR]; rfl)
  have k1 : ∀ W, Ext w1 W → W.cell? ⟨e, 1, none⟩ = some (.int .i64 a) := fun _ h => h.kept i1
  have k2 : ∀ W, Ext w1 W → W.cell? ⟨e, 2, none⟩ = some (.int .i64 b) := fun _ h => h.kept i2
  have k3 : ∀ W, Ext w1 W → W.cell? ⟨e, 3, none⟩ = some (.int .i64 c) := fun _ h => h.kept i3
  have ma : ∀ W, Ext w1 W → W.cell? ⟨kR, a.toNat, none⟩ = some (.int .i64 (rg S.pl.regs a)) := fun _ h => h.kept ra
  have mb : ∀ W, Ext w1 W → W.cell? ⟨kR, b.toNat, none⟩ = some (.int .i64 (rg S.pl.regs b)) := fun _ h => h.kept rb
  have hixr := Q1v
  clear hn i1 i2 i3 ra rb hvR hbR hkg
  cases hh : Q46 c (rg S.pl.regs a) (rg S.pl.regs b)
  ·have HTs : Hid (T = if S.choice = 0 then (S.goTo (S.pl.at_ + 1)).chosen else ((S.goTo (S.pl.at_ + 1)).chosen).leave.goTo (n.toNat)) := Lib.hid (by
    rw [← HT.out]
    unfold doS Q2s
    simp only
    rw [if_neg (by omega), if_pos trivial, hh]
    rfl)
   have C8 : ∀ W, Calls Try.prog 46 #[.int .i64 c, .int .i64 (rg S.pl.regs a), .int .i64 (rg S.pl.regs b)] W fun e w' => e = .returned (.bool false) ∧ W = w' := fun W => by
    have := Qag c (rg S.pl.regs a) (rg S.pl.regs b) W va0 va1 vb0 vb1
    rw [hh] at this
    exact this
   have C8 := Lib.hid C8
   clear hh va0 va1 vb0 vb1
   go_upto_region 10 with fail
   refine Q0i 21 (by kernel_rfl) (by kernel_rfl) ?_
   simp only [List.take_succ_cons, List.take_zero, List.drop_succ_cons, List.drop_zero]
   repeat (first | (refine Q0e ?_ ?_ (fun wc hE => ?_) ?_; (decide); rfl; (focus (go_simp; done)); go_simp) | (refine Q0a ?_ ?_ ?_; (decide); (first | rfl | (focus (go_simp; done))); apply Exists.intro; refine ⟨fun wc hE => ?_, ?_⟩; (go_simp; exact rfl); go_simp) | (refine Q0f ?_ ?_ ?_; (decide); (first | rfl | (focus (go_simp; done))); apply Exists.intro; refine ⟨fun wc hE => ?_, ?_⟩; (go_simp; (first | (with_reducible exact Q68 (C8.out _)))); go_simp) | (refine Q0c ?_ ?_ ?_; (decide); (focus (go_simp; done)); go_simp))
   refine Q0d ?_
   intro w2 hx
   have P1 := P.out.extend hx
   have i4 : w2.cell? ⟨e, 4, none⟩ = some (.int .i64 n) := hx.kept i4
   have g3 := Q07 hx g3
   have hel2 : e < w2.heap.size := hx.lt hel1
   have hgl2 := P1.box.lt
   have P2 := P1.at__ (S.pl.at_ + 1)
   have T2 := ((Q03.ofExt X.out).ext hx).trans (P1.stays 3 (.int .i64 ((S.pl.at_ + 1 : Nat) : Int)))
   rw [show ((S.pl.at_ + 1 : Nat) : Int) = (S.pl.at_ : Int) + 1 by omega] at P2 T2
   have P2 := Lib.hid P2
   have T2 := Lib.hid T2
   have hpl := Lib.hid (Hm.out.pl.goTo (k := S.pl.at_ + 1) (by have := Hat.out; omega))
   have Hwr : Hid (((n.toNat : Nat) : Int) = n) := Lib.hid (by first | exact Hn.out.symm | omega)
   clear k0 k1 k2 k3 ma mb C8 hx P1
   go_wp2_with fail
   have C := Q7z P2.out
   (with_reducible refine C.mono ?_)
   clear C
   rintro er w3 ⟨rfl, V3, P3, T3⟩
   have hch : (S.goTo (S.pl.at_ + 1)).choice = S.choice := rfl
   rw [hch]
   have T3 := Lib.hid (T2.out.trans T3)
   have P3 := Lib.hid P3
   clear hch g3 i4
   by_cases hz : S.choice = 0
   ·rw [hz]
    have HTz := Lib.hid (HTs.out.trans (if_pos hz))
    clear hz
    go_wp2
    go_ret
    rw [HTz.out, HOs.out]
    exact ⟨rfl, _, P3.out, T3.out⟩
   ·have HTz := Lib.hid (HTs.out.trans (if_neg hz))
    have q0 : (S.choice != (0 : Int)) = true := by simpa using hz
    clear hz HTs
    generalize S.choice = ch at *
    go_wp2_with fail
    have C := Q7x P3.out hpl.out (by omega) hN
    (with_reducible refine C.mono ?_)
    clear C
    rintro er w4 ⟨rfl, V4, P4, T4⟩
    have g3 : w4.cell? ⟨g, 3, none⟩ = some (.int .i64 ((((S.goTo (S.pl.at_ + 1)).chosen).leave).pl.at_ : Int)) ∧ w4.frozen? ⟨g, 3, none⟩ = false := ⟨by rw [P4.box.cell]; rfl, P4.box.frozen _⟩
    have hgl4 := P4.box.lt
    have P5 := P4.at__ (n.toNat)
    have T5 := (T3.out.trans T4).trans (P4.stays 3 (.int .i64 ((n.toNat : Nat) : Int)))
    rw [Hwr.out] at P5 T5
    have P5 := Lib.hid P5
    have T5 := Lib.hid T5
    generalize (((S.goTo (S.pl.at_ + 1)).chosen).leave).pl.at_ = aa at *
    clear P4 T4 q0
    go_wp2
    go_ret
    rw [HTz.out, HOs.out]
    exact ⟨rfl, _, P5.out, T5.out⟩
  ·have HTs : Hid (T = if S.choice = 0 then (S.goTo (n.toNat)).chosen else ((S.goTo (n.toNat)).chosen).leave.goTo (S.pl.at_ + 1)) := Lib.hid (by
    rw [← HT.out]
    unfold doS Q2s
    simp only
    rw [if_neg (by omega), if_pos trivial, hh]
    rfl)
   have C8 : ∀ W, Calls Try.prog 46 #[.int .i64 c, .int .i64 (rg S.pl.regs a), .int .i64 (rg S.pl.regs b)] W fun e w' => e = .returned (.bool true) ∧ W = w' := fun W => by
    have := Qag c (rg S.pl.regs a) (rg S.pl.regs b) W va0 va1 vb0 vb1
    rw [hh] at this
    exact this
   have C8 := Lib.hid C8
   clear hh va0 va1 vb0 vb1
   go_upto_region 10 with fail
   refine Q0i 21 (by kernel_rfl) (by kernel_rfl) ?_
   simp only [List.take_succ_cons, List.take_zero, List.drop_succ_cons, List.drop_zero]
   repeat (first | (refine Q0e ?_ ?_ (fun wc hE => ?_) ?_; (decide); rfl; (focus (go_simp; done)); go_simp) | (refine Q0a ?_ ?_ ?_; (decide); (first | rfl | (focus (go_simp; done))); apply Exists.intro; refine ⟨fun wc hE => ?_, ?_⟩; (go_simp; exact rfl); go_simp) | (refine Q0f ?_ ?_ ?_; (decide); (first | rfl | (focus (go_simp; done))); apply Exists.intro; refine ⟨fun wc hE => ?_, ?_⟩; (go_simp; (first | (with_reducible exact Q68 (C8.out _)))); go_simp) | (refine Q0c ?_ ?_ ?_; (decide); (focus (go_simp; done)); go_simp))
   refine Q0d ?_
   intro w2 hx
   have P1 := P.out.extend hx
   have i4 : w2.cell? ⟨e, 4, none⟩ = some (.int .i64 n) := hx.kept i4
   have g3 := Q07 hx g3
   have hel2 : e < w2.heap.size := hx.lt hel1
   have hgl2 := P1.box.lt
   have P2 := P1.at__ (n.toNat)
   have T2 := ((Q03.ofExt X.out).ext hx).trans (P1.stays 3 (.int .i64 ((n.toNat : Nat) : Int)))
   rw [← Hn.out] at P2 T2
   have P2 := Lib.hid P2
   have T2 := Lib.hid T2
   have hpl := Lib.hid (Hm.out.pl.goTo (k := n.toNat) (by have := Hat.out; omega))
   have Hwr : Hid (((S.pl.at_ + 1 : Nat) : Int) = (S.pl.at_ : Int) + 1) := Lib.hid (by first | exact Hn.out.symm | omega)
   clear k0 k1 k2 k3 ma mb C8 hx P1
   go_wp2_with fail
   have C := Q7z P2.out
   (with_reducible refine C.mono ?_)
   clear C
   rintro er w3 ⟨rfl, V3, P3, T3⟩
   have hch : (S.goTo (n.toNat)).choice = S.choice := rfl
   rw [hch]
   have T3 := Lib.hid (T2.out.trans T3)
   have P3 := Lib.hid P3
   clear hch g3 i4
   by_cases hz : S.choice = 0
   ·rw [hz]
    have HTz := Lib.hid (HTs.out.trans (if_pos hz))
    clear hz
    go_wp2
    go_ret
    rw [HTz.out, HOs.out]
    exact ⟨rfl, _, P3.out, T3.out⟩
   ·have HTz := Lib.hid (HTs.out.trans (if_neg hz))
    have q0 : (S.choice != (0 : Int)) = true := by simpa using hz
    clear hz HTs
    generalize S.choice = ch at *
    go_wp2_with fail
    have C := Q7x P3.out hpl.out (by omega) hN
    (with_reducible refine C.mono ?_)
    clear C
    rintro er w4 ⟨rfl, V4, P4, T4⟩
    have g3 : w4.cell? ⟨g, 3, none⟩ = some (.int .i64 ((((S.goTo (n.toNat)).chosen).leave).pl.at_ : Int)) ∧ w4.frozen? ⟨g, 3, none⟩ = false := ⟨by rw [P4.box.cell]; rfl, P4.box.frozen _⟩
    have hgl4 := P4.box.lt
    have P5 := P4.at__ (S.pl.at_ + 1)
    have T5 := (T3.out.trans T4).trans (P4.stays 3 (.int .i64 ((S.pl.at_ + 1 : Nat) : Int)))
    rw [Hwr.out] at P5 T5
    have P5 := Lib.hid P5
    have T5 := Lib.hid T5
    generalize (((S.goTo (n.toNat)).chosen).leave).pl.at_ = aa at *
    clear P4 T4 q0
    go_wp2
    go_ret
    rw [HTz.out, HOs.out]
    exact ⟨rfl, _, P5.out, T5.out⟩
 by_cases h9 : op = 9
 ·subst h9
  obtain ⟨-, -, -, -, -, -, h9r, -⟩ := Q3d Hi.out
  have ha := h9r rfl
  simp only at ha
  cases hah : S.ahead
  ·have HTs : Hid (T = { S with fin := 1, value := rg S.pl.regs a }) := Lib.hid (by rw [← HT.out]; unfold doS; rw [if_neg (by simp), if_neg (by simp), if_pos rfl, if_neg (by rw [hah]; simp)])
   have HOs : Hid (ob = false) := Lib.hid (by rw [← HO.out]; simp [Q1c, hah])
   rw [hah] at g12
   obtain ⟨a0, a1⟩ := Q0l.1 ha
   have g6 : w1.cell? ⟨g, 6, none⟩ = some (.int .i64 S.fin) ∧ w1.frozen? ⟨g, 6, none⟩ = false := ⟨by rw [P.out.box.cell]; rfl, P.out.box.frozen _⟩
   have P2 := Lib.hid (P.out.fin_ 1)
   have T2 := Lib.hid ((Q03.ofExt X.out).trans (P.out.stays 6 (.int .i64 1)))
   have BI2 := Lib.hid (BI.out.far (p := ⟨g, 6, none⟩) (Ne.symm hge) (.int .i64 1))
   clear hah
   go_upto_region 20 with fail
   generalize w1.setCell ⟨g, 6, none⟩ (.int .i64 1) = w2 at *
   clear g6 g12 g3 i0 i1 i2 i3 i4
   obtain ⟨kR, cR, Y, hvR, hbR, hkg⟩ := P2.out.regRow Hl.out
   obtain ⟨ra, -⟩ := Q1s hbR Hl.out ha
   replace ra : w2.cell? ⟨kR, a.toNat, none⟩ = some (.int .i64 (rg S.pl.regs a)) := ra
   have k0 : ∀ W, Ext w2 W → W.cell? ⟨g, 0, none⟩ = some (.slice (some ⟨kR, 0, none⟩) 10 cR) := fun _ h => h.kept (by rw [P2.out.box.cell, ← hvR]; rfl)
   have k1 : ∀ W, Ext w2 W → W.cell? ⟨e, 1, none⟩ = some (.int .i64 a) := fun _ h => h.kept (by rw [BI2.out.cell]; rfl)
   have ma : ∀ W, Ext w2 W → W.cell? ⟨kR, a.toNat, none⟩ = some (.int .i64 (rg S.pl.regs a)) := fun _ h => h.kept ra
   have hixr := Q1v
   refine Q0i 10 (by kernel_rfl) (by kernel_rfl) ?_
   simp only [List.take_succ_cons, List.take_zero, List.drop_succ_cons, List.drop_zero]
   repeat (first | (refine Q0e ?_ ?_ (fun wc hE => ?_) ?_; (decide); rfl; (focus (go_simp; done)); go_simp) | (refine Q0a ?_ ?_ ?_; (decide); (first | rfl | (focus (go_simp; done))); apply Exists.intro; refine ⟨fun wc hE => ?_, ?_⟩; (go_simp; exact rfl); go_simp) | (refine Q0f ?_ ?_ ?_; (decide); (first | rfl | (focus (go_simp; done))); apply Exists.intro; refine ⟨fun wc hE => ?_, ?_⟩; (go_simp; (first | fail)); go_simp) | (refine Q0c ?_ ?_ ?_; (decide); (focus (go_simp; done)); go_simp))
   refine Q0d ?_
   intro w3 hx
   have P3 := P2.out.extend hx
   have g7 : w3.cell? ⟨g, 7, none⟩ = some (.int .i64 S.value) ∧ w3.frozen? ⟨g, 7, none⟩ = false := ⟨by rw [P3.box.cell]; rfl, P3.box.frozen _⟩
   have hgl3 := P3.box.lt
   have P4 := Lib.hid (P3.value_ (rg S.pl.regs a))
   have T4 := Lib.hid ((T2.out.ext hx).trans (P3.stays 7 (.int .i64 (rg S.pl.regs a))))
   clear k0 k1 ma ra hx P3 hvR hbR
   go_wp2
   go_ret
   rw [HTs.out, HOs.out]
   exact ⟨rfl, _, P4.out, T4.out⟩
  ·have HTs : Hid (T = S.goTo (S.pl.at_ + 1)) := Lib.hid (by rw [← HT.out]; unfold doS; rw [if_neg (by simp), if_neg (by simp), if_pos rfl, if_pos hah])
   have HOs : Hid (ob = true) := Lib.hid (by rw [← HO.out]; simp [Q1c, hah])
   rw [hah] at g12
   have P2 := P.out.at__ (S.pl.at_ + 1)
   have T2 := (Q03.ofExt X.out).trans (P.out.stays 3 (.int .i64 ((S.pl.at_ + 1 : Nat) : Int)))
   rw [show ((S.pl.at_ + 1 : Nat) : Int) = (S.pl.at_ : Int) + 1 by omega] at P2 T2
   have P2 := Lib.hid P2
   have T2 := Lib.hid T2
   clear hah
   go_wp2
   go_ret
   rw [HTs.out, HOs.out]
   exact ⟨rfl, _, P2.out, T2.out⟩
 by_cases h12 : op = 12
 ·subst h12
  have HTs : Hid (T = S.goTo (S.pl.at_ + 1)) := Lib.hid (by rw [← HT.out]; unfold doS; rw [if_neg (by simp), if_neg (by simp), if_neg (by simp), if_pos rfl])
  have HOs : Hid (ob = true) := Lib.hid (by rw [← HO.out]; simp [Q1c])
  have P2 := P.out.at__ (S.pl.at_ + 1)
  have T2 := (Q03.ofExt X.out).trans (P.out.stays 3 (.int .i64 ((S.pl.at_ + 1 : Nat) : Int)))
  rw [show ((S.pl.at_ + 1 : Nat) : Int) = (S.pl.at_ : Int) + 1 by omega] at P2 T2
  have P2 := Lib.hid P2
  have T2 := Lib.hid T2
  go_wp2
  go_ret
  rw [HTs.out, HOs.out]
  exact ⟨rfl, _, P2.out, T2.out⟩
 have HOs : Hid (ob = false) := Lib.hid (by rw [← HO.out]; simp [Q1c, h9, h12])
 have q7 : (op == (7 : Int)) = false := by simpa using h7
 have q8 : (op == (8 : Int)) = false := by simpa using h8
 have q9 : (op == (9 : Int)) = false := by simpa using h9
 have q12 : (op == (12 : Int)) = false := by simpa using h12
 by_cases hw : op = 3 ∨ op = 4 ∨ op = 5 ∨ op = 6
 ·have HTs : Hid (T = Q1e p ⟨op, a, b, c, n⟩ S) := Lib.hid (by
   rw [← HT.out]; unfold doS
   rw [if_neg h7, if_neg h8, if_neg h9, if_neg h12, if_pos (by unfold Q15 Q28; rcases hw with h | h | h | h <;> simp [h])])
  have hpv : putV op = putN ⟨op, a, b, c, n⟩ := Qfc (i := ⟨op, a, b, c, n⟩) hw
  have Hw := Lib.hid hw
  rw [hpv]
  have hp0 : decide (0 ≤ putN ⟨op, a, b, c, n⟩) = true := by unfold putN; split <;> rfl
  clear h7 h8 h9 h12 hw hpv
  go_wp2_with fail
  have C := Qdq ⟨op, a, b, c, n⟩ Hw.out Hi.out Hfi.out Hr.out Hp.out Hm.out hN Hat.out hcl Hsn.out P.out
  simp only [insV] at C
  (with_reducible refine C.mono ?_)
  clear C
  rintro er w2 ⟨rfl, V2, P2, T2⟩
  have P2 := Lib.hid P2
  have T2 := Lib.hid ((Q03.ofExt X.out).trans T2)
  go_wp2
  go_ret
  rw [HTs.out, HOs.out]
  exact ⟨rfl, _, P2.out, T2.out⟩
 ·have hw2 : op ≠ 3 ∧ op ≠ 4 ∧ op ≠ 5 ∧ op ≠ 6 ∧ op ≠ 7 ∧ op ≠ 8 ∧ op ≠ 9 := by omega
  have HTs : Hid (T = { S with seen := S.seen ++ Q12 S.pl.regs ⟨op, a, b, c, n⟩, pl := { S.pl with regs := Q0r S.pl.regs ⟨op, a, b, c, n⟩, at_ := S.pl.at_ + 1 } }) := Lib.hid (by
   rw [← HT.out]; unfold doS
   rw [if_neg h7, if_neg h8, if_neg h9, if_neg h12, if_neg (by unfold Q15 Q28; simp; omega)])
  have hpv : putV op = -1 := by unfold putV; rw [if_neg (by omega), if_neg (by omega)]
  rw [hpv]
  obtain ⟨kR, cR, Y, hvR, hbR, hkg⟩ := P.out.regRow Hl.out
  have HvR := Lib.hid hvR
  have k0 : ∀ W, Ext w1 W → W.cell? ⟨g, 0, none⟩ = some (.slice (some ⟨kR, 0, none⟩) 10 cR) := fun _ h => h.kept (by rw [P.out.box.cell, ← hvR]; rfl)
  have q0 : ∀ W, Ext w1 W → W.cell? ⟨e, 0, none⟩ = some (.int .i64 op) := fun _ h => h.kept i0
  have q1 : ∀ W, Ext w1 W → W.cell? ⟨e, 1, none⟩ = some (.int .i64 a) := fun _ h => h.kept i1
  have q2 : ∀ W, Ext w1 W → W.cell? ⟨e, 2, none⟩ = some (.int .i64 b) := fun _ h => h.kept i2
  have q3 : ∀ W, Ext w1 W → W.cell? ⟨e, 3, none⟩ = some (.int .i64 c) := fun _ h => h.kept i3
  have q4 : ∀ W, Ext w1 W → W.cell? ⟨e, 4, none⟩ = some (.int .i64 n) := fun _ h => h.kept i4
  have HbR := Lib.hid hbR
  have hkl1 := hbR.lt
  clear h7 h8 h9 h12 hw hpv hvR hbR
  go_upto_region 2 with fail
  clear i0 i1 i2 i3 i4 g12
  refine Q0i 6 (by kernel_rfl) (by kernel_rfl) ?_
  simp only [List.take_succ_cons, List.take_zero, List.drop_succ_cons, List.drop_zero]
  repeat (first | (refine Q0e ?_ ?_ (fun wc hE => ?_) ?_; (decide); rfl; (focus (go_simp; done)); go_simp) | (refine Q0a ?_ ?_ ?_; (decide); (first | rfl | (focus (go_simp; done))); apply Exists.intro; refine ⟨fun wc hE => ?_, ?_⟩; (go_simp; exact rfl); go_simp) | (refine Q0f ?_ ?_ ?_; (decide); (first | rfl | (focus (go_simp; done))); apply Exists.intro; refine ⟨fun wc hE => ?_, ?_⟩; (go_simp; (first | fail)); go_simp) | (refine Q0c ?_ ?_ ?_; (decide); (focus (go_simp; done)); go_simp))
  refine Q0d ?_
  intro w2 hx
  have HW2 := Lib.hid hw2
  clear k0 q0 q1 q2 q3 q4 hw2 q7 q8 q9 q12 g3
  go_wp2_with fail
  have C := Qel kR Y cR 2 S.pl.regs p ⟨op, a, b, c, n⟩ Hl.out Hm.out.pl.r64 Hi.out HW2.out w2 (HbR.out.ext hx)
  simp only [insV] at C
  (with_reducible refine C.mono ?_)
  clear C
  rintro er w3 ⟨ao, cap, rfl, hsrc, hgr, hbR3⟩
  have P2 := P.out.extend hx
  have hgr' : w2.grownBy w3 V.vR.ownBlock := by rw [HvR.out]; exact hgr
  have hrow := P2.core.fam.at_ (Q4m V S)
  rw [HvR.out] at hrow
  have hlen : (Q0r S.pl.regs ⟨op, a, b, c, n⟩).length = S.pl.regs.length := Q88 _ _
  have hnew : w3.ownsRow wB.heap.size 2 1 V.vR (Q0r S.pl.regs ⟨op, a, b, c, n⟩).length ((Q0r S.pl.regs ⟨op, a, b, c, n⟩).map (Value.int .i64)) := by
   have := Qfr (l' := Q0r S.pl.regs ⟨op, a, b, c, n⟩) (by rw [Hl.out] at hrow ⊢; exact hrow) (HbR.out.ext hx) hlen hbR3
   rw [HvR.out]
   rw [hlen, Hl.out] at this ⊢
   exact this
  have P3 := P2.regs hgr' hnew
  have T3 := Lib.hid (((Q03.ofExt X.out).ext hx).trans (P2.regsStays hgr'))
  have Hsrc := Lib.hid hsrc
  have hml : (Q12 S.pl.regs ⟨op, a, b, c, n⟩).length ≤ 1 := by unfold Q12; split <;> simp
  obtain ⟨ov, ovc, hvS⟩ := Q0m P3.core.sn
  have HvS := Lib.hid hvS
  have g9 : w3.cell? ⟨g, 9, none⟩ = some (.slice ov S.seen.length ovc) := by rw [P3.box.cell, ← hvS]; rfl
  have SN := P3.core.sn
  rw [hvS] at SN
  have SN := Lib.hid SN
  have hBs := P3.core.ext.size
  have hgl3 := P3.box.lt
  have P3 := Lib.hid P3
  obtain ⟨i0', hi0', hz0', hz1', hz2'⟩ := info_parts Q8i
  generalize hps : Q12 S.pl.regs ⟨op, a, b, c, n⟩ = ps at *
  generalize hpr : Q0r S.pl.regs ⟨op, a, b, c, n⟩ = pr at *
  clear hx hsrc hgr hbR3 P2 hgr' hrow hnew hvS hlen hps hpr
  have hsn1 := Hsn.out
  go_wp2_with (at_builtin; refine Q2e _ rfl _ _ 28 rfl wB.heap.size 79 i0' _ 3 24 Try.underlying28 hi0' hz0' hz1' hz2' rfl (by decide) _ _ _ rfl SN.out ao ps.length cap (ps.flatMap Q2g) rfl ?c1 ?c3 ?c4 ?c5 ?_)
  case c1 => exact Hsrc.out
  case c3 => unfold maxLen; omega
  case c4 => omega
  case c5 => exact hBs
  intro vS' w4 hown hgrow hat4
  obtain ⟨ow, owc, rfl⟩ := Q0m hown
  have hgrow : w3.grownBy w4 (Value.slice ov S.seen.length ovc).ownBlock := hgrow
  rw [← HvS.out] at hgrow
  have hb := P3.out.box.grown hgrow (Q06 P3.out.core.sn P3.out.box (by decide))
  have p9 : w4.cell? ⟨g, 9, none⟩ = some (.slice ov S.seen.length ovc) ∧ w4.frozen? ⟨g, 9, none⟩ = false := ⟨by rw [hb.cell, ← HvS.out]; rfl, hb.frozen 9⟩
  have p3 : w4.cell? ⟨g, 3, none⟩ = some (.int .i64 (S.pl.at_ : Int)) ∧ w4.frozen? ⟨g, 3, none⟩ = false := ⟨by rw [hb.cell]; rfl, hb.frozen 3⟩
  have hgl4 := hb.lt
  have P4 := P3.out.show_ (s := S.seen ++ ps) (u := .slice ow (S.seen.length + ps.length) owc) hgrow (by simpa using hown)
  have T4 := T3.out.trans (P3.out.showStays hgrow (.slice ow (S.seen.length + ps.length) owc))
  have P5 := P4.at__ (S.pl.at_ + 1)
  have T5 := T4.trans (P4.stays 3 (.int .i64 ((S.pl.at_ + 1 : Nat) : Int)))
  rw [show ((S.pl.at_ + 1 : Nat) : Int) = (S.pl.at_ : Int) + 1 by omega] at P5 T5
  have P5 := Lib.hid P5
  have T5 := Lib.hid T5
  clear hown hgrow hat4 hb g9 P4 T4
  go_wp2
  go_ret
  rw [HTs.out, HOs.out]
  exact ⟨rfl, _, P5.out, T5.out⟩
theorem Qgb (n : Nat) (hn : n ≤ 1000) (w : World) : (Instr.makeSlice 26 (.int .i64 (n : Int)) (.int .i64 (n : Int))).run Try.prog w = .ok (.slice (some ⟨w.heap.size, 0, none⟩) n n) (w.alloc (.cells (madeCells #[.slice none 0 0] n) 52)) := by
 obtain ⟨i, hi, hz, hs, hb⟩ := info_parts Q6y
 have := run_make (P := Try.prog) w 26 52 i (.slice none 0 0) Try.underlying26 hi hz .i64 .i64 n n (by omega) (Int.le_refl _) (by rw [hb]; omega) (by omega)
 rw [show (Value.slice none 0 0).cells = #[.slice none 0 0] from rfl, hs, Int.toNat_natCast, Nat.mul_one] at this
 exact this
theorem made_get' (z : Array Value) (n j : Nat) (hj : j < n) : (madeCells z n)[j]? = some z[j % z.size]! := by simp [madeCells, hj]
theorem made_size' (z : Array Value) (n : Nat) : (madeCells z n).size = n := by simp [madeCells]
theorem Qgc (n : Nat) : (madeCells #[.slice none 0 0] n).toList = List.replicate n (.slice none 0 0) := by
 apply List.ext_getElem?
 intro j
 by_cases h : j < n
 ·rw [Array.getElem?_toList, made_get' _ _ _ h, List.getElem?_replicate, if_pos h]
  simp [Nat.mod_one]
 ·rw [List.getElem?_eq_none (by simp [madeCells]; omega), List.getElem?_eq_none (by simp; omega)]
theorem own_cap' {w : World} {B k n cap : Nat} {e : TypeId} {s : Nat} {xs : List Value} (h : w.ownsRow B e s (.slice (some ⟨k, 0, none⟩) n cap) n xs) : n ≤ cap ∧ cap ≤ maxLen := by
 rcases h.2 with ⟨h0, -⟩ | ⟨g, c, cur, hv, h1, h2, h3, h4, -⟩
 ·cases h0
 ·simp only [Value.slice.injEq] at hv
  obtain ⟨-, -, rfl⟩ := hv
  exact ⟨h3, h4⟩
theorem Qcr {w : World} {B k cap N lo n : Nat} {E : TypeId} {l : List Int} (h : w.ownsRow B E 1 (.slice (some ⟨k, 0, none⟩) N cap) N (l.map (Value.int .i64))) (hl : l.length = N) (hb : lo + n ≤ N) :
  Src w 1 (some ⟨k, lo, none⟩) n (((l.drop lo).take n).map (Value.int .i64)) := by
 refine ⟨by simp only [List.length_map, List.length_take, List.length_drop]; omega, (fun e => by cases e), fun ad he j u hu => ?_, fun u hu => ?_⟩
 ·simp only [Option.some.injEq] at he
  subst he
  have hj : j < n := by
   have := (List.getElem?_eq_some_iff.1 hu).1
   simp only [List.length_map, List.length_take] at this
   omega
  have hc := h.cellAt (lo + j) (by omega)
  have e : (l.map (Value.int .i64))[lo + j]? = some u := by
   rw [← hu]
   simp only [List.getElem?_map, List.getElem?_take, List.getElem?_drop]
   rw [if_pos hj]
  rw [e] at hc
  rw [Q36]
  exact hc
 ·simp only [List.mem_map] at hu
  obtain ⟨x, -, rfl⟩ := hu
  rfl
section
variable {wB w w' : World} {g : Nat} {vG vC : Value} {V : RV} {S : Spc}
theorem RSt.words_ (h : RSt wB w g vG vC V S) (hg : w.grownBy w' V.vW.ownBlock) {u : Value} {l : List Int} (ho : w'.ownsRow wB.heap.size 2 1 u l.length (l.map (Value.int .i64))) (hat : ∀ k, u.ownBlock = some k → V.vW.ownBlock = some k ∨ w.heap.size ≤ k) :
  RSt wB (w'.setCell ⟨g, 1, none⟩ u) g vG vC { V with vW := u } { S with pl := { S.pl with words := l } } := by
 have c := h.core
 have hr := c.fam.at_ (Q3r V S)
 have hb := h.box.grown hg (Q06 hr h.box (by decide))
 have c2 : Core wB w' { V with vW := u } { S with pl := { S.pl with words := l } } := by
  refine ⟨?_, Q0y c.out hg (fun k hk => Q13 hr c.out (by decide) k hk), fun e => ⟨Q0y (c.bout e).1 hg (fun k hk => Q13 hr (c.bout e).1 (by decide) k hk), (c.bout e).2⟩, Q0y c.sn hg (fun k hk => Q13 hr c.sn (by decide) k hk), c.scr,
   Q33 c.ext hg c.ext.size (Q1u hr)⟩
  have := c.fam.set_ (Q3r V S) hg ho hat
  rw [Qa4] at this
  exact this
 exact ⟨hb.set_ 1 u, c2.box hb h.hg 1 u, h.hg⟩
theorem RSt.pasts (h : RSt wB w g vG vC V S) (h0 : S.pl.past = []) (n : Nat) (hn : n ≤ 1000) :
  RSt wB ((w.alloc (.cells (madeCells #[.slice none 0 0] n) 52)).setCell ⟨g, 2, none⟩ (.slice (some ⟨w.heap.size, 0, none⟩) n n)) g vG vC { V with vP := .slice (some ⟨w.heap.size, 0, none⟩) n n, vs := List.replicate n (.slice none 0 0) } { S with pl := { S.pl with past := List.replicate n [] } } := by
 have hx : Ext w (w.alloc (.cells (madeCells #[.slice none 0 0] n) 52)) := (Ext.refl w).alloc _
 have h1 := h.extend hx
 have hbs := h.core.ext.size
 have hvs : V.vs = [] := by
  have := h.core.out.1
  rw [h0] at this
  simpa using this
 have hblk := Blk.new w 52 (madeCells #[.slice none 0 0] n)
 have c2 : Core wB (w.alloc (.cells (madeCells #[.slice none 0 0] n) 52)) { V with vP := .slice (some ⟨w.heap.size, 0, none⟩) n n, vs := List.replicate n (.slice none 0 0) } { S with pl := { S.pl with past := List.replicate n [] } } := by
  refine ⟨?_, ⟨by simp, .inr ⟨w.heap.size, n, madeCells #[.slice none 0 0] n, by simp, hbs, hblk, by simp, by unfold maxLen; omega, by simp [made_size'], ?_⟩⟩, fun e => ⟨(h1.core.bout e).1, fun k hk hk' => ?_⟩, h1.core.sn, h1.core.scr, h1.core.ext⟩
  ·have hf := h1.core.fam
   have key : ∀ m, Fam (w.alloc (.cells (madeCells #[.slice none 0 0] n) 52)) wB.heap.size ((List.replicate m (.slice none 0 0)).zip (List.replicate m ([] : List Int))) := by
    intro m
    rw [List.zip_replicate', ]
    refine ⟨fun x hx => ?_, List.pairwise_replicate.2 (.inr fun k hk => by simp [Value.ownBlock] at hk)⟩
    rw [List.mem_replicate] at hx
    rw [hx.2]
    exact World.ownsRow_nil _ _ _ _
   have hn1 : ∀ m, ∀ x ∈ (List.replicate m (Value.slice none 0 0)).zip (List.replicate m ([] : List Int)), x.1.ownBlock = none := fun m x hx => by
    rw [List.zip_replicate', List.mem_replicate] at hx
    rw [hx.2]
    rfl
   unfold Q1z Q1l at hf ⊢
   rw [h0, hvs] at hf
   simp only [List.zip_nil_left] at hf
   have hp := hf.apart
   simp only [List.cons_append, List.nil_append] at hf ⊢
   refine ⟨fun x hx => ?_, ?_⟩
   ·simp only [List.mem_cons, List.mem_append] at hx
    rcases hx with hx | hx | hx | hx
    ·exact hf.own x (by simp [hx])
    ·exact hf.own x (by simp [hx])
    ·exact (key n).own x hx
    ·exact hf.own x (by simp only [List.mem_cons]; exact .inr (.inr hx))
   ·have ha := hf.apart
    rw [List.pairwise_cons, List.pairwise_cons] at ha ⊢
    obtain ⟨a1, a2, a3⟩ := ha
    refine ⟨fun y hy => ?_, fun y hy => ?_, ?_⟩
    ·simp only [List.mem_cons, List.mem_append] at hy
     rcases hy with hy | hy | hy
     ·exact a1 y (by simp [hy])
     ·intro k _ hk'
      rw [hn1 n y hy] at hk'
      cases hk'
     ·exact a1 y (List.mem_cons_of_mem _ hy)
    ·rcases List.mem_append.1 hy with hy | hy
     ·intro k _ hk'
      rw [hn1 n y hy] at hk'
      cases hk'
     ·exact a2 y hy
    ·rw [List.pairwise_append]
     refine ⟨(key n).apart, a3, fun x hx y hy k hk => ?_⟩
     rw [hn1 n x hx] at hk
     cases hk
  ·rw [Nat.mul_one, List.take_of_length_le (by simp [madeCells]), Qgc]
  ·have h2 := (h.core.bout e).1.lt k hk'
   have h3 : w.heap.size = k := by simpa [Value.ownBlock] using hk
   omega
 exact ⟨h1.box.set_ 2 _, c2.box h1.box h.hg 2 _, h.hg⟩
end
def Q3n (w : World) (g fuel : Nat) : Nat :=
 2 * (fuel - (match w.cell? ⟨g, 8, none⟩ with | some (.int _ n) => n.toNat | _ => 0)) + (match w.cell? ⟨g, 12, none⟩ with | some (.bool true) => 1 | _ => 0)
theorem Q5e {wB w : World} {g : Nat} {vG vC : Value} {V : RV} {S : Spc} (h : RSt wB w g vG vC V S) (fuel : Nat) : Q3n w g fuel = 2 * (fuel - S.steps) + bN S.ahead := by
 have g8 : w.cell? ⟨g, 8, none⟩ = some (.int .i64 (S.steps : Int)) := by rw [h.box.cell]; rfl
 have g12 : w.cell? ⟨g, 12, none⟩ = some (.bool S.ahead) := by rw [h.box.cell]; rfl
 unfold Q3n
 rw [g8, g12]
 cases S.ahead <;> simp [bN]
def Qdt (vG vC : Value) (V : RV) (S : Spc) (vM : Value) : List Value :=
 [V.vR, V.vW, V.vP, .int .i64 S.pl.at_, vG, vC, .int .i64 S.fin, .int .i64 S.value, .int .i64 S.steps, V.vS, vM, V.vX, .bool S.ahead, .int .i64 S.since, V.bR, V.bW, V.bP, .int .i64 S.back.at_]
structure DSt (wB w : World) (g : Nat) (vG vC : Value) (V : RV) (S : Spc) (vM : Value) (ms : List (List Int)) (us : List Value) : Prop where
 box : Blk w g 67 (Qdt vG vC V S vM).toArray
 ws : w.ownsRow wB.heap.size 2 1 V.vW S.pl.words.length (S.pl.words.map (Value.int .i64))
 sn : w.ownsRow wB.heap.size 79 3 V.vS S.seen.length (S.seen.flatMap Q2g)
 mem : w.ownsRow wB.heap.size 52 1 vM ms.length us
 rows : ∀ j, j < ms.length → w.ownsRow wB.heap.size 2 1 (us.getD j undef) (ms.getD j default).length ((ms.getD j default).map (Value.int .i64))
 ext : Ext wB w
 hg : wB.heap.size ≤ g
section
variable {wB w w' : World} {g : Nat} {vG vC vM : Value} {V : RV} {S : Spc} {ms : List (List Int)} {us : List Value}
theorem DSt.extend (h : DSt wB w g vG vC V S vM ms us) (hx : Ext w w') : DSt wB w' g vG vC V S vM ms us :=
 ⟨h.box.ext hx, Q1m h.ws hx, Q1m h.sn hx, Q1m h.mem hx, fun j hj => Q1m (h.rows j hj) hx, h.ext.trans hx, h.hg⟩
theorem DSt.push (h : DSt wB w g vG vC V S vM ms us) {w1 : World} (hx : Ext w w1) {x u : Value} {l : List Int} (ho : w1.ownsRow wB.heap.size 2 1 x l.length (l.map (Value.int .i64))) (hg : w1.grownBy w' vM.ownBlock)
  (hO : w'.ownsRow wB.heap.size 52 1 u (ms.length + 1) (us ++ [x])) : DSt wB (w'.setCell ⟨g, 10, none⟩ u) g vG vC V S u (ms ++ [l]) (us ++ [x]) := by
 have h1 := h.extend hx
 have hul : us.length = ms.length := by have := h.mem.1; omega
 have hb := h1.box.grown hg (Q06 h1.mem h1.box (by decide))
 have hws := Q0y h1.ws hg (fun k hk => Q13 h1.mem h1.ws (by decide) k hk)
 have hsn := Q0y h1.sn hg (fun k hk => Q13 h1.mem h1.sn (by decide) k hk)
 have hx2 := Q0y ho hg (fun k hk => Q13 h1.mem ho (by decide) k hk)
 refine ⟨hb.set_ 10 u, Q0o (p := ⟨g, 10, none⟩) hws (Q06 hws hb (by decide)) u, Q0o (p := ⟨g, 10, none⟩) hsn (Q06 hsn hb (by decide)) u, ?_, fun j hj => ?_, (Q33 h1.ext hg h1.ext.size (Q1u h1.mem)).setCell h.hg u, h.hg⟩
 ·rw [List.length_append]
  exact Q0o (p := ⟨g, 10, none⟩) hO (Q06 hO hb (by decide)) u
 ·rw [List.length_append, List.length_singleton] at hj
  by_cases e : j < ms.length
  ·have e1 : (us ++ [x]).getD j undef = us.getD j undef := by simp [List.getD_eq_getElem?_getD, List.getElem?_append_left (show j < us.length by omega)]
   have e2 : (ms ++ [l]).getD j default = ms.getD j default := by simp [List.getD_eq_getElem?_getD, List.getElem?_append_left e]
   have h2 := h1.rows j e
   have h3 := Q0y h2 hg (fun k hk => Q13 h1.mem h2 (by decide) k hk)
   rw [e1, e2]
   exact Q0o (p := ⟨g, 10, none⟩) h3 (Q06 h3 hb (by decide)) u
  ·obtain rfl : j = ms.length := by omega
   have e1 : (us ++ [x]).getD ms.length undef = x := by rw [← hul]; simp
   have e2 : (ms ++ [l]).getD ms.length default = l := by simp
   rw [e1, e2]
   exact Q0o (p := ⟨g, 10, none⟩) hx2 (Q06 hx2 hb (by decide)) u
end
theorem RSt.done {wB w : World} {g : Nat} {vG vC : Value} {V : RV} {S : Spc} (h : RSt wB w g vG vC V S) (ha : S.ahead = false) : DSt wB w g vG vC V (endS S) (.slice none 0 0) [] [] := by
 have e : endS S = S := by unfold endS; rw [if_neg (by rw [ha]; simp)]
 rw [e]
 exact ⟨h.box, h.core.fam.at_ (Q3r V S), h.core.sn, World.ownsRow_nil _ _ _ _, fun j hj => by simp at hj, h.core.ext, h.hg⟩
set_option maxHeartbeats 2000000 in
theorem RSt.doneBack {wB w : World} {g : Nat} {vG vC : Value} {V : RV} {S : Spc} (h : RSt wB w g vG vC V S) (ha : S.ahead = true) :
  DSt wB ((((w.setCell ⟨g, 0, none⟩ V.bR).setCell ⟨g, 1, none⟩ V.bW).setCell ⟨g, 2, none⟩ V.bP).setCell ⟨g, 3, none⟩ (.int .i64 S.back.at_)) g vG vC { V with vR := V.bR, vW := V.bW, vP := V.bP } (endS S) (.slice none 0 0) [] [] := by
 have e : endS S = { S with pl := S.back } := by unfold endS; rw [if_pos ha]
 rw [e]
 have b1 := h.box.set_ 0 V.bR
 have b2 := b1.set_ 1 V.bW
 have b3 := b2.set_ 2 V.bP
 have b4 := b3.set_ 3 (.int .i64 S.back.at_)
 have hf : Fam w wB.heap.size (Q1l V.bR V.bW V.bs S.back) := by
  refine h.core.fam.sub ?_
  unfold Q1z
  rw [if_pos ha]
  exact List.sublist_append_right _ _
 have far : ∀ {e : TypeId} {s n : Nat} {v : Value} {xs : List Value}, w.ownsRow wB.heap.size e s v n xs → e ≠ 67 → ((((w.setCell ⟨g, 0, none⟩ V.bR).setCell ⟨g, 1, none⟩ V.bW).setCell ⟨g, 2, none⟩ V.bP).setCell ⟨g, 3, none⟩ (.int .i64 S.back.at_)).ownsRow wB.heap.size e s v n xs := fun ho hne => by
  have hn := Q06 ho h.box hne
  exact Q0o (p := ⟨g, 3, none⟩) (Q0o (p := ⟨g, 2, none⟩) (Q0o (p := ⟨g, 1, none⟩) (Q0o (p := ⟨g, 0, none⟩) ho hn _) hn _) hn _) hn _
 exact ⟨b4, far (hf.at_ (i := 1) rfl) (by decide), far h.core.sn (by decide), World.ownsRow_nil _ _ _ _, fun j hj => by simp at hj, (((h.core.ext.setCell (p := ⟨g, 0, none⟩) h.hg _).setCell (p := ⟨g, 1, none⟩) h.hg _).setCell (p := ⟨g, 2, none⟩) h.hg _).setCell (p := ⟨g, 3, none⟩) h.hg _, h.hg⟩
def Q2c (l : List Int) : Bool := decide (l.length ≤ 2000) && l.all fun x => decide (0 ≤ x)
set_option maxHeartbeats 2000000 in
theorem Qek (l : List Int) (v : Value) (w : World) (h : Q1i w v l) :
  Calls Try.prog 8 #[v] w fun e w' => e = .returned (.bool (Q2c l)) ∧ Ext w w' := by
 obtain ⟨h64, oa, cap, b, o, rfl, hc1, hc2, hrow⟩ := h
 have hix := Q3f (cap := cap) hrow.at_
 have Hrow := Lib.hid hrow
 clear hrow h64
 by_cases hl : 2000 < l.length
 ·have Ho : Hid (Q2c l = false) := Lib.hid (by unfold Q2c; simp; omega)
  have hd : decide ((2000 : Int) < (l.length : Int)) = true := by simp; omega
  go_enter Try.func8, Try.ntmps8
  go_wp2
  go_ret
  rw [Ho.out]
  exact ⟨rfl, Ext.refl _⟩
 have hd : decide ((2000 : Int) < (l.length : Int)) = false := by simp; omega
 go_enter Try.func8, Try.ntmps8
 go_wp2_with fail
 go_loopw [3] (fun i wr => ∃ j : Nat, j ≤ l.length ∧ i = .int .i64 j ∧ (∀ k, k < j → 0 ≤ l.getD k default) ∧ Ext w wr) (fun i _ => l.length - (intOf i).toNat)
 case atStart => exact ⟨0, by omega, rfl, fun k hk => by omega, Ext.refl _⟩
 case round =>
  obtain ⟨j, hj, rfl, hall, hE⟩ := hrel
  have Hall := Lib.hid hall
  have X := Lib.hid hE
  clear hall
  by_cases hlt : j < l.length
  ·have e0 := (Hrow.out.ext hE).one j hlt
   have hbl := Q0s e0
   simp only at hbl
   clear hE
   by_cases hn : l.getD j default < 0
   ·have Ho : Hid (Q2c l = false) := Lib.hid (by
     unfold Q2c
     rw [Bool.and_eq_false_iff]
     right
     rw [Bool.eq_false_iff]
     intro h
     have := List.all_eq_true.1 h _ (Q1f hlt)
     simp only [decide_eq_true_eq] at this
     omega)
    have hd2 : decide (l.getD j default < 0) = true := by simpa using hn
    generalize l.getD j default = x at *
    go_wp2
    go_ret
    rw [Ho.out]
    exact ⟨rfl, X.out⟩
   ·have hd2 : decide (l.getD j default < 0) = false := by simpa using hn
    have Hn : Hid (0 ≤ l.getD j default) := Lib.hid (by omega)
    generalize hx : l.getD j default = x at *
    have Hx := Lib.hid hx
    clear hn hx
    go_wp2
    go_roundw
    case rel => exact ⟨j + 1, by omega, by go_num, fun k hk => by
     rcases Nat.lt_or_ge k j with h | h
     ·exact Hall.out k h
     ·obtain rfl : k = j := by omega
      rw [Hx.out]; exact Hn.out, X.out⟩
    case measure => first | (simp [intOf]; done) | (simp [intOf]; omega)
  ·have hje : j = l.length := by omega
   subst hje
   have Ho : Hid (Q2c l = true) := Lib.hid (by
    unfold Q2c
    simp only [Bool.and_eq_true, decide_eq_true_eq, List.all_eq_true]
    refine ⟨by omega, fun x hx => ?_⟩
    obtain ⟨k, hk, rfl⟩ := List.getElem_of_mem hx
    have := Hall.out k hk
    simpa [hk] using this)
   have hlt2 : decide ((l.length : Int) < (l.length : Int)) = false := by simp
   go_wp2
   go_ret
   rw [Ho.out]
   exact ⟨rfl, X.out⟩
theorem Q6z {oa : Option Addr} {n b o cap : Nat} (h : 0 < n → oa = some ⟨b, o, none⟩) (W : World) (i : Int) (h0 : 0 ≤ i) (h1 : i < n) :
  (Instr.indexAt 28 (.slice oa n cap) (.int .i64 i)).run Try.prog W = .ok (.pointer (some ⟨b, o + i.toNat * 3, none⟩)) W := by
 obtain rfl := h (by omega)
 have hs : (Try.prog.info? 79).map (·.size) = some 3 := by kernel_rfl
 simp [Instr.indexAt, run_underlying Try.underlying28, asIntOf, h0, h1]
 exact Q36 b o _
end Go.Proofs.Ytalpnmjaafcpoaa
