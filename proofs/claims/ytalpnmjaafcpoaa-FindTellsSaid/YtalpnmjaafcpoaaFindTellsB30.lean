/- Laid together from: Play7. -/
import Derived.Test.YtalpnmjaafcpoaaFindTellsB27
import Derived.Deep.CutBlock
import Derived.Deep.CutRange

namespace Go.Proofs.Ytalpnmjaafcpoaa
open Go.ChangeShapes Go.WideShapes Go.ChangeAt Go.RowKit
set_option linter.unusedVariables false
set_option linter.unusedSimpArgs false
def Q3y (ws script : List Int) : Spc := ⟨⟨List.replicate 10 0, ws, [], 0⟩, 0, 0, 0, [], script, false, 0, ⟨[], [], [], 0⟩⟩
theorem Qi2 {p : Q01} {F : Spc} (h : SOk p F) : (endS F).pl.words.length = Q0b p ∧ Q0v (endS F).pl.words := by
 unfold endS
 cases ha : F.ahead
 ·rw [if_neg (by simp)]
  exact ⟨h.mid.pl.wlen, h.mid.pl.w64⟩
 ·rw [if_pos rfl]
  exact ⟨(h.mid.back ha).wlen, (h.mid.back ha).w64⟩
theorem Qfs {w : World} {B : Nat} {fin value : Int} {steps : Nat} {seen : List LSee} {vS vM : Value} {ms : List (List Int)} {us : List Value} (hsn : w.ownsRow B 79 3 vS seen.length (seen.flatMap Q2g)) (hm : w.ownsRow B 52 1 vM ms.length us)
  (hrow : ∀ j, j < ms.length → w.ownsRow B 2 1 (us.getD j undef) (ms.getD j default).length ((ms.getD j default).map (Value.int .i64))) (h64 : ∀ l ∈ ms, ∀ x ∈ l, R64 x) : Q2v w (.agg #[.int .i64 fin, .int .i64 value, .int .i64 steps, vS, vM]) fin value steps seen ms := by
 refine ⟨_, _, rfl, Q9v hsn, ?_⟩
 have h1 : us.length = ms.length := by have := hm.1; omega
 have h2 := hm
 have hs : us = us.flatMap fun x => [x] := by
  clear h1 h2 hm hrow
  induction us with
  | nil => rfl
  | cons x l ih => simp
 rw [← h1, hs] at h2
 obtain ⟨oa, cap, b, e1, e2, e3, e4, -⟩ := Q59 (c := 1) (f := fun x : Value => [x]) (g := fun x _ => x) (by omega) (fun _ => rfl) (fun x j hj => by
  obtain rfl : j = 0 := by omega
  rfl) (by simpa using h2)
 rw [h1] at e1 e2 e4
 refine ⟨oa, cap, b, 0, e1, e2, e3, fun i => us.getD i default, e4, fun i hi => ?_⟩
 have h6 := hrow i hi
 have e : us.getD i default = us.getD i undef := by
  have : i < us.length := by omega
  simp [this]
 simp only [e]
 exact Qbc h6 (h64 _ (Q1f hi))
theorem DSt.result {wB w : World} {g q : Nat} {vG vC vM : Value} {V : RV} {S : Spc} {ms : List (List Int)} {us : List Value} (h : DSt wB w g vG vC V S vM ms us) (h64 : ∀ l ∈ ms, ∀ x ∈ l, R64 x) (hq : q < wB.heap.size) (a b c d e : Value) :
  Q2v (((((w.setCell ⟨q, 0, none⟩ a).setCell ⟨q, 1, none⟩ b).setCell ⟨q, 2, none⟩ c).setCell ⟨q, 3, none⟩ d).setCell ⟨q, 4, none⟩ e) (.agg #[.int .i64 S.fin, .int .i64 S.value, .int .i64 S.steps, V.vS, vM]) S.fin S.value S.steps S.seen ms := by
 have far : ∀ {t : TypeId} {s n : Nat} {v : Value} {xs : List Value}, w.ownsRow wB.heap.size t s v n xs → (((((w.setCell ⟨q, 0, none⟩ a).setCell ⟨q, 1, none⟩ b).setCell ⟨q, 2, none⟩ c).setCell ⟨q, 3, none⟩ d).setCell ⟨q, 4, none⟩ e).ownsRow wB.heap.size t s v n xs := fun {t s n v xs} ho => by
  have hn : some q ≠ v.ownBlock := fun h => by have := Q1u ho q h.symm; omega
  exact Q0o (p := ⟨q, 4, none⟩) (Q0o (p := ⟨q, 3, none⟩) (Q0o (p := ⟨q, 2, none⟩) (Q0o (p := ⟨q, 1, none⟩) (Q0o (p := ⟨q, 0, none⟩) ho hn _) hn _) hn _) hn _) hn _
 exact Qfs (far h.sn) (far h.mem) (fun j hj => far (h.rows j hj)) h64
theorem Qcy (k N cap lo n : Nat) (h1 : lo + n ≤ N) (h2 : N ≤ cap) (h3 : 0 < n) (W : World) :
  (Instr.slice 52 (.slice (some ⟨k, 0, none⟩) N cap) (some (.int .i64 (lo : Int))) (some (.int .i64 ((lo : Int) + (n : Int)))) none).run Try.prog W = .ok (.slice (some ⟨k, lo, none⟩) n (cap - lo)) W := by
 have hu : Try.prog.underlying 52 = some (.slice (Try.prog.elem 52)) := by kernel_rfl
 have hz : (sizeOf (Try.prog.elem 52)).run Try.prog W = .ok 1 W := by kernel_rfl
 rw [run_slice_lh (P := Try.prog) W 52 (some ⟨k, 0, none⟩) N cap hu .i64 .i64 (lo : Int) ((lo : Int) + (n : Int)) (by omega) (by omega) (by omega), hz]
 simp only [Result.andThen, sliced, Int.toNat_natCast]
 rw [if_neg (by omega), show ((lo : Int) + (n : Int)).toNat - lo = n by omega]
 simp only [Option.map_some, Q36, Nat.mul_one, Nat.zero_add]
theorem Q7t {p : Q01} {S F : Spc} {k : Nat} (h : runS p k S = F) (h0 : S.steps = 0) : runS p (k - S.steps) S = F := by rw [h0]; exact h
theorem Qip {ws script : List Int} {n : Nat} (h : ws.length = n) : ({ Q3y ws script with pl := { (Q3y ws script).pl with past := List.replicate n [] } } : Spc) = Q17 ws script := by
 unfold Q3y Q17
 rw [h]
def Qbu (p : Q01) (F : Spc) (w : World) (e : Ending) (w' : World) : Prop := ∃ u, e = .returned u ∧ Q2v w' u F.fin F.value F.steps F.seen (Q0q p F.pl.words) ∧ Ext w w'
set_option maxRecDepth 100000 in
set_option maxHeartbeats 40000000 in
theorem Qaj (p : Q01) (m : List (List Int)) (script : List Int) (fuel : Int) (v vm vx : Value) (w : World) (hp : Q10 w v p) (hm : Q1w w vm m) (hs : Q1i w vx script) (hh : Q3o p = true) (hf : Q2j p m = true) (hfu : fuel ≤ 40000) (hf64 : R64 fuel) :
  Calls Try.prog 10 #[v, vm, vx, .int .i64 fuel] w (Qbu p (endS (runS p fuel.toNat (Q17 m.flatten script))) w) := by
 obtain ⟨om, cm, bm, fm, rfl, hcm1, hcm2, vs0, hrowm, hin⟩ := hm
 have hm64 : ∀ l ∈ m, ∀ x ∈ l, R64 x := by
  intro l hl x hx
  obtain ⟨i, hi, rfl⟩ := List.getElem_of_mem hl
  have := (hin i hi).1
  simp only [List.getD_eq_getElem?_getD, List.getElem?_eq_getElem hi, Option.getD_some] at this
  exact this x hx
 obtain ⟨hr, hc1, hc2, hall⟩ := Q72 hh
 have hlen6 := Q44 hr
 have htt := Q42 hr
 have hft := Qbd hf
 have hw64 : Q0v m.flatten := Q90 fun x hx => by
  rw [List.mem_flatten] at hx
  obtain ⟨l, hl, hx⟩ := hx
  exact hm64 l hl x hx
 have HSt := Lib.hid (Q9r (p := p) (script := script) hft hw64)
 have HP := Lib.hid hp
 have Hh := Lib.hid hh
 have Hr := Lib.hid hr
 have Hall := Lib.hid hall
 have Hlog := Lib.hid (Q4p hr)
 have Hft := Lib.hid hft
 have Hrowm := Lib.hid hrowm
 have Hin := Lib.hid hin
 have HS := Lib.hid hs
 have Hf64 := Lib.hid hf64
 have hixm := index_mem' (cap := cm) hrowm.at_
 obtain ⟨h64s, ox, cx, bx, fx, rfl, -, -, -⟩ := hs
 obtain ⟨v1, v2, rfl, ⟨hrl, oR, cR, bR, fR, rfl, -, -, hrow⟩, ⟨hcfits, oC, cC, bC, fC, rfl, -, -, hrowc⟩⟩ := hp
 have Hfits := Lib.hid hcfits
 have hixR := Q32 (cap := cR) hrow.at_
 have hixC := Q70 (cap := cC) hrowc.at_
 have Hrow := Lib.hid hrow
 have Hrowc := Lib.hid hrowc
 have Hmlen : Hid (m.length ≤ 6) := Lib.hid (by have := (Q74 hf).1; omega)
 have hcode : p.code.length ≤ 1000000 := by omega
 obtain ⟨i0, hi0, hz0, hz1, hz2⟩ := info_parts Q4w
 obtain ⟨j0, hj0, hy0, hy1, hy2⟩ := info_parts Q6y
 have hmk := Qga
 have hmk2 := Qgb (Q0b p) (by omega)
 generalize hF : runS p fuel.toNat (Q17 m.flatten script) = F
 have HF := Lib.hid hF
 clear hF hr hall hf hh hft hrowm hin hrow hrowc hm64 hw64 hf64 hcm1 hcm2 hc1 hcfits hrl h64s
 go_enter Try.func10, Try.ntmps10
 go_upto_region 1 with fail
 obtain ⟨W, gb, hg, hW, hx, bP, bRes⟩ := Q1y w #[.slice oR p.regs.length cR, .slice oC p.code.length cC] #[.int .i64 0, .int .i64 0, .int .i64 0, .slice none 0 0, .slice none 0 0] 25 30
 rw [hW, hg]
 have XB := Lib.hid hx
 have BP := Lib.hid bP
 have BRes := Lib.hid bRes
 obtain ⟨g, hgg⟩ : ∃ g, gb + 1 + 1 = g := ⟨_, rfl⟩
 have hWs : W.heap.size = g := by rw [← hW, ← hgg, ← hg]; simp
 have p0 : W.cell? ⟨gb, 0, none⟩ = some (.slice oR p.regs.length cR) := by rw [bP.cell]; rfl
 have p1 : W.cell? ⟨gb, 1, none⟩ = some (.slice oC p.code.length cC) := by rw [bP.cell]; rfl
 have hgbl := bP.lt
 clear hW hx bP bRes
 go_upto_region 3 with fail
 obtain ⟨w2, g', hg', hW2, hx2, b0, b1⟩ := Q1y W #[.slice (some ⟨g + 1, 0, none⟩) 10 10, .slice none 0 0, .slice none 0 0, .int .i64 0, .slice oR p.regs.length cR, .slice oC p.code.length cC, .int .i64 0, .int .i64 0, .int .i64 0, .slice none 0 0, .slice none 0 0, .slice ox script.length cx, .bool false, .int .i64 0, .slice none 0 0, .slice none 0 0, .slice none 0 0, .int .i64 0] ten 67 2
 obtain rfl : g' = g := by rw [← hg', hWs]
 rw [hW2]
 have R0 : RSt W w2 g' (.slice oR p.regs.length cR) (.slice oC p.code.length cC) ⟨.slice (some ⟨g' + 1, 0, none⟩) 10 10, .slice none 0 0, .slice none 0 0, .slice none 0 0, .slice ox script.length cx, .slice none 0 0, .slice none 0 0, .slice none 0 0, [], []⟩ (Q3y [] script) := by
  refine ⟨b0, ⟨⟨fun x hx => ?_, ?_⟩, World.ownsRow_nil _ _ _ _, (fun e => by cases e), World.ownsRow_nil _ _ _ _, HS.out.ext XB.out, hx2⟩, by omega⟩
  ·have hx' : x = (Value.slice (some ⟨g' + 1, 0, none⟩) 10 10, List.replicate 10 (0 : Int)) ∨ x = (Value.slice none 0 0, ([] : List Int)) := by simpa [Q1z, Q1l, Q3y] using hx
   rcases hx' with rfl | rfl
   ·exact ⟨by simp, .inr ⟨g' + 1, 10, ten, by simp, by omega, b1, by simp, by simp [maxLen], by rfl, by rfl⟩⟩
   ·exact World.ownsRow_nil _ _ _ _
  ·simp [Q1z, Q1l, Q3y, Value.ownBlock]
 have R0 := Lib.hid R0
 have hgs : gb < w2.heap.size := hx2.lt hgbl
 clear hW2 hx2 b0 b1 hg' hWs hgg p0 p1
 go_wp2_with fail
 go_loopw [10] (fun i wr => ∃ (j : Nat) (V : RV), j ≤ m.length ∧ i = .int .i64 j ∧ RSt W wr g' (.slice oR p.regs.length cR) (.slice oC p.code.length cC) V (Q3y (m.take j).flatten script)) (fun i _ => m.length - (intOf i).toNat)
 case atStart => exact ⟨0, _, by omega, rfl, by simpa using R0.out⟩
 case round =>
  obtain ⟨j, V, hj, rfl, hR⟩ := hrel
  have P := Lib.hid hR
  have hgl := hR.box.lt
  have hbs := hR.core.ext.size
  have hm6 := Hmlen.out
  by_cases hlt : j < m.length
  ·have e0 := (Hrowm.out.ext (XB.out.trans hR.core.ext)).one j hlt
   obtain ⟨hb64, ol, lcap, lb, lo, hv, hl1, hl2, hlr⟩ := (Hin.out j hlt).ext (XB.out.trans hR.core.ext)
   have Htk : Hid ((m.take (j + 1)).flatten = (m.take j).flatten ++ m.getD j default) := Lib.hid (by rw [List.take_succ_eq_append_getElem hlt, List.flatten_append]; simp [hlt])
   have hlen1 : (m.take j).flatten.length ≤ Q0b p := by
    rw [← Hft.out, ← List.take_append_drop j m, List.flatten_append, List.length_append, List.take_append_drop]
    omega
   have hlen2 : (m.getD j default).length ≤ Q0b p := by
    have h2 : (m.take (j + 1)).flatten.length ≤ Q0b p := by
     rw [← Hft.out, ← List.take_append_drop (j + 1) m, List.flatten_append, List.length_append, List.take_append_drop]
     omega
    rw [Htk.out, List.length_append] at h2
    omega
   generalize m.getD j default = l at *
   generalize (m.take j).flatten = ws at *
   generalize vs0 j = vl at *
   subst hv
   have hbl := Q0s e0
   simp only at hbl
   have Hlr := Lib.hid hlr
   obtain ⟨ow, cw, hvW⟩ := hR.wordLen (N := ws.length) rfl
   have HvW := Lib.hid hvW
   have k0 : ∀ Wx, Ext wr Wx → Wx.cell? ⟨g', 1, none⟩ = some (.slice ow ws.length cw) := fun _ h => h.kept (by rw [P.out.box.cell, ← hvW]; rfl)
   have k1 : ∀ Wx, Ext wr Wx → Wx.cell? ⟨bm, fm + j, none⟩ = some (.slice ol l.length lcap) := fun _ h => h.kept e0
   clear hR hb64 hl1 hl2 hlr hvW
   go_upto_region 6 with fail
   clear e0
   refine Q27 [10, 11, 12, 13, 14] 0 (by kernel_rfl) (by kernel_rfl) ?_
   repeat (first | (refine Q2r ?_ ?_; (decide)) | (refine Q2k ?_ ?_ ?_; (decide); (first | rfl | (focus (go_simp; done))); apply Exists.intro; refine ⟨fun wc hE => ?_, ?_⟩; (go_simp; exact rfl); go_simp) | (refine Q2p ?_ ?_ ?_; (decide); (focus (go_simp; done)); go_simp))
   refine Q2q ?_
   intro w3 hx3
   have P3 := P.out.extend hx3
   have HX3 := Lib.hid hx3
   have hrW := P3.core.fam.at_ (Q3r V _)
   rw [HvW.out] at hrW
   have HrW := Lib.hid hrW
   have hbs3 := P3.core.ext.size
   have P3 := Lib.hid P3
   clear k0 k1 hx3 hrW
   refine Q20 (Q0j rfl (Q0j rfl (Q0j rfl (Q0j rfl (Q0j rfl (Q24)))))) ?_
   refine Q2e _ rfl (.tmp 35) (.tmp 39) 52 rfl W.heap.size 2 i0 _ 1 8 Try.underlying52 hi0 hz0 hz1 hz2 rfl (by decide) _ ws.length (ws.map (Value.int .i64)) rfl ?c0 ol l.length lcap (l.map (Value.int .i64)) rfl ?c1 ?c3 ?c4 ?c5 ?_
   case c0 => exact HrW.out
   case c1 => exact (Q6h .i64 Hlr.out).ext HX3.out
   case c3 => unfold maxLen; omega
   case c4 => omega
   case c5 => exact hbs3
   intro v4 w4 hown hgrow hat
   obtain ⟨o4, c4, rfl⟩ := Q0m hown
   have hgrow : w3.grownBy w4 (Value.slice ow ws.length cw).ownBlock := hgrow
   have hown' : w4.ownsRow W.heap.size 2 1 (.slice o4 (ws.length + l.length) c4) (ws ++ l).length ((ws ++ l).map (Value.int .i64)) := by simpa using hown
   have hat' : ∀ k, (Value.slice o4 (ws.length + l.length) c4).ownBlock = some k → V.vW.ownBlock = some k ∨ w3.heap.size ≤ k := fun k hk => by
    rw [HvW.out]
    rcases hat with e | e
    ·left; rw [e] at hk; exact hk
    ·right; rw [e] at hk; exact Nat.le_of_eq (Option.some.inj hk)
   rw [← HvW.out] at hgrow
   have hb4 := P3.out.box.grown hgrow (by rw [HvW.out]; exact Q06 HrW.out P3.out.box (by decide))
   have P4 := Lib.hid (P3.out.words_ hgrow hown' hat')
   have q1 : w4.cell? ⟨g', 1, none⟩ = some (.slice ow ws.length cw) ∧ w4.frozen? ⟨g', 1, none⟩ = false := ⟨by rw [hb4.cell, ← HvW.out]; rfl, hb4.frozen _⟩
   have hgl4 := hb4.lt
   clear hown hgrow hat hown' hat' hb4
   go_wp2
   go_roundw
   case rel => exact ⟨j + 1, _, by omega, by go_num, by rw [Htk.out]; exact P4.out⟩
   case measure => first | (simp [intOf]; done) | (simp [intOf]; omega)
  ·have hje : j = m.length := by omega
   subst hje
   have hlt2 : decide ((m.length : Int) < (m.length : Int)) = false := by simp
   have hR1 := hR
   rw [List.take_length] at hR1
   obtain ⟨ow, cw, hvW⟩ := hR1.wordLen (N := Q0b p) Hft.out
   have q1 : wr.cell? ⟨g', 1, none⟩ = some (.slice ow (Q0b p) cw) := by rw [hR1.box.cell, ← hvW]; rfl
   have q2 : wr.cell? ⟨g', 2, none⟩ = some V.vP ∧ wr.frozen? ⟨g', 2, none⟩ = false := ⟨by rw [hR1.box.cell]; rfl, hR1.box.frozen _⟩
   have P1 := hR1.pasts rfl (Q0b p) (by omega)
   rw [Qip Hft.out, World.setCell_alloc_past _ _ _ _ hgl] at P1
   have P1 := Lib.hid P1
   clear hR hR1 hvW P
   go_upto_block 2 with fail
   generalize (wr.setCell ⟨g', 2, none⟩ (.slice (some ⟨wr.heap.size, 0, none⟩) (Q0b p) (Q0b p))).alloc (.cells (madeCells #[.slice none 0 0] (Q0b p)) 52) = w5 at *
   clear q1 q2 hbs hm6 hlt hlt2 hj
   go_cut [11] from 55 to 137 (fun s11 wx => SOk p F ∧ ∃ V7, RSt W wx g' (.slice oR p.regs.length cR) (.slice oC p.code.length cC) V7 F)
   case first =>
    go_wp2_with fail
    go_loopw [11] (fun _ wr => ∃ (S : Spc) (V : RV), SOk p S ∧ S.steps ≤ fuel.toNat ∧ runS p (fuel.toNat - S.steps) S = F ∧ RSt W wr g' (.slice oR p.regs.length cR) (.slice oC p.code.length cC) V S) (fun _ wr => Q3n wr g' fuel.toNat)
    case atStart => exact ⟨Q17 m.flatten script, _, HSt.out, by simp [Q17], Q7t HF.out rfl, P1.out⟩
    case round =>
     obtain ⟨S, V, hok, hst, hrun, hR⟩ := hrel
     have hmeas := Q5e hR fuel.toNat
     have Hmeas := Lib.hid hmeas
     have P := Lib.hid hR
     have Hok := Lib.hid hok
     have Hrun := Lib.hid hrun
     have g3 : wr.cell? ⟨g', 3, none⟩ = some (.int .i64 (S.pl.at_ : Int)) ∧ wr.frozen? ⟨g', 3, none⟩ = false := ⟨by rw [hR.box.cell]; rfl, hR.box.frozen _⟩
     have g6 : wr.cell? ⟨g', 6, none⟩ = some (.int .i64 S.fin) ∧ wr.frozen? ⟨g', 6, none⟩ = false := ⟨by rw [hR.box.cell]; rfl, hR.box.frozen _⟩
     have g8 : wr.cell? ⟨g', 8, none⟩ = some (.int .i64 (S.steps : Int)) ∧ wr.frozen? ⟨g', 8, none⟩ = false := ⟨by rw [hR.box.cell]; rfl, hR.box.frozen _⟩
     have g12 : wr.cell? ⟨g', 12, none⟩ = some (.bool S.ahead) := by rw [hR.box.cell]; rfl
     have hgl2 := hR.box.lt
     have Xr := Lib.hid hR.core.ext
     have bPr := BP.out.ext hR.core.ext
     have hgb2 := bPr.lt
     have p1 : wr.cell? ⟨gb, 1, none⟩ = some (.slice oC p.code.length cC) := by rw [bPr.cell]; rfl
     have hsn : S.seen.length ≤ 170000 := by have := hok.seen; omega
     clear hmeas hok hrun hR bPr
     by_cases hlt : (S.steps : Int) < fuel
     ·by_cases hfin : S.fin = 0
      ·have Hfin := Lib.hid hfin
       rw [hfin] at g6
       have hk : 0 < fuel.toNat - S.steps := by omega
       by_cases hat : S.pl.at_ < p.code.length
       ·have hi : p.code[S.pl.at_]? = some (p.code.getD S.pl.at_ default) := by simp [hat]
        have Hiok := Lib.hid (Hall.out _ (Q1f (l := p.code) hat))
        have Hfi := Lib.hid (Hfits.out _ (Q1f (l := p.code) hat))
        have hd9 : decide ((p.code.length : Int) ≤ (S.pl.at_ : Int)) = false := by simp; omega
        have k3 : ∀ Wx, Ext wr Wx → Wx.cell? ⟨g', 3, none⟩ = some (.int .i64 (S.pl.at_ : Int)) := fun _ h => h.kept g3.1
        have kp : ∀ Wx, Ext wr Wx → Wx.cell? ⟨gb, 1, none⟩ = some (.slice oC p.code.length cC) := fun _ h => h.kept p1
        have Hins : Hid (∀ Wx, Ext W Wx → Wx.cell? ⟨bC, fC + S.pl.at_ * 5, none⟩ = some (.int .i64 (p.code.getD S.pl.at_ default).op) ∧ Wx.cell? ⟨bC, fC + S.pl.at_ * 5 + 1, none⟩ = some (.int .i64 (p.code.getD S.pl.at_ default).a) ∧ Wx.cell? ⟨bC, fC + S.pl.at_ * 5 + 2, none⟩ = some (.int .i64 (p.code.getD S.pl.at_ default).b) ∧
          Wx.cell? ⟨bC, fC + S.pl.at_ * 5 + 3, none⟩ = some (.int .i64 (p.code.getD S.pl.at_ default).c) ∧ Wx.cell? ⟨bC, fC + S.pl.at_ * 5 + 4, none⟩ = some (.int .i64 (p.code.getD S.pl.at_ default).n)) := Lib.hid fun Wx hE => (Hrowc.out.ext (XB.out.trans hE)).ins S.pl.at_ hat
        have Hok2 := Lib.hid (Hok.out.step hat Hiok.out Hfi.out)
        have Hmid2 := Lib.hid (Hok.out.mid2 hat Hiok.out Hfi.out)
        have Hmid1 : Hid (SMid p S.steps (begS S)) := Lib.hid (Hok.out.mid.steps _ _)
        have Hnext : Hid (runS p (fuel.toNat - (Q11 p (p.code.getD S.pl.at_ default) S).steps) (Q11 p (p.code.getD S.pl.at_ default) S) = F) := Lib.hid (by
         rw [Q37, ← Hrun.out, Qa3 hk Hfin.out hi]
         congr 1)
        have Hseen := Lib.hid (Q7q p (p.code.getD S.pl.at_ default) (begS S))
        generalize p.code.getD S.pl.at_ default = i at *
        obtain ⟨op, a, b, c, n⟩ := i
        simp only at Hins
        clear hi
        go_upto_region 9 with fail
        refine Q0i 9 (by kernel_rfl) (by kernel_rfl) ?_
        simp only [List.take_succ_cons, List.take_zero, List.drop_succ_cons, List.drop_zero]
        repeat (first | (refine Q0e ?_ ?_ (fun wc hE => ?_) ?_; (decide); rfl; (focus (go_simp; done)); go_simp) | (refine Q0a ?_ ?_ ?_; (decide); (first | rfl | (focus (go_simp; done))); apply Exists.intro; refine ⟨fun wc hE => ?_, ?_⟩; (go_simp; exact rfl); go_simp) | (refine Q0f ?_ ?_ ?_; (decide); (first | rfl | (focus (go_simp; done))); apply Exists.intro; refine ⟨fun wc hE => ?_, ?_⟩; (go_simp; (first | fail)); go_simp) | (refine Q0c ?_ ?_ ?_; (decide); (focus (go_simp; done)); go_simp))
        refine Q0d ?_
        intro w6 hx6
        have P6 := Lib.hid (P.out.extend hx6)
        have g8 := Q07 hx6 g8
        have g3 := hx6.kept g3.1
        have hgl6 := P6.out.box.lt
        have hs4 : (S.steps : Int) ≤ 40000 := by omega
        have P7 := P6.out.steps_ (S.steps + 1)
        rw [show ((S.steps + 1 : Nat) : Int) = (S.steps : Int) + 1 by omega] at P7
        have P7 := Lib.hid P7
        clear hx6 k3 kp g6 g12 p1 hd9
        go_wp2_with fail
        have C := Q7u P7.out 1 (S.pl.at_ : Int) 0 (Nat.le_trans hsn (by omega))
        (with_reducible refine C.mono ?_)
        clear C
        rintro er w8 ⟨rfl, V8, P8, T8⟩
        replace P8 : RSt W w8 g' (.slice oR p.regs.length cR) (.slice oC p.code.length cC) V8 (begS S) := P8
        obtain ⟨e0, e1, e2, e3, e4⟩ := Hins.out w8 P8.core.ext
        have hbl2 := Q0s e0
        simp only at hbl2
        have m0 : ∀ Wx, Ext w8 Wx → Wx.cell? ⟨bC, fC + S.pl.at_ * 5, none⟩ = some (.int .i64 op) := fun _ h => h.kept e0
        have m1 : ∀ Wx, Ext w8 Wx → Wx.cell? ⟨bC, fC + S.pl.at_ * 5 + 1, none⟩ = some (.int .i64 a) := fun _ h => h.kept e1
        have m2 : ∀ Wx, Ext w8 Wx → Wx.cell? ⟨bC, fC + S.pl.at_ * 5 + 2, none⟩ = some (.int .i64 b) := fun _ h => h.kept e2
        have m3 : ∀ Wx, Ext w8 Wx → Wx.cell? ⟨bC, fC + S.pl.at_ * 5 + 3, none⟩ = some (.int .i64 c) := fun _ h => h.kept e3
        have m4 : ∀ Wx, Ext w8 Wx → Wx.cell? ⟨bC, fC + S.pl.at_ * 5 + 4, none⟩ = some (.int .i64 n) := fun _ h => h.kept e4
        have k3 : ∀ Wx, Ext w8 Wx → Wx.cell? ⟨g', 3, none⟩ = some (.int .i64 (S.pl.at_ : Int)) := fun _ h => h.kept (by rw [P8.box.cell]; rfl)
        have kp : ∀ Wx, Ext w8 Wx → Wx.cell? ⟨gb, 1, none⟩ = some (.slice oC p.code.length cC) := fun _ h => h.kept (by rw [(BP.out.ext P8.core.ext).cell]; rfl)
        have hgl8 := P8.box.lt
        have hgb8 := (BP.out.ext P8.core.ext).lt
        have P8 := Lib.hid P8
        clear T8 g3 g8 e0 e1 e2 e3 e4
        go_upto_region 15 with fail
        refine Q0i 10 (by kernel_rfl) (by kernel_rfl) ?_
        simp only [List.take_succ_cons, List.take_zero, List.drop_succ_cons, List.drop_zero]
        repeat (first | (refine Q0e ?_ ?_ (fun wc hE => ?_) ?_; (decide); rfl; (focus (go_simp; done)); go_simp) | (refine Q0a ?_ ?_ ?_; (decide); (first | rfl | (focus (go_simp; done))); apply Exists.intro; refine ⟨fun wc hE => ?_, ?_⟩; (go_simp; exact rfl); go_simp) | (refine Q0f ?_ ?_ ?_; (decide); (first | rfl | (focus (go_simp; done))); apply Exists.intro; refine ⟨fun wc hE => ?_, ?_⟩; (go_simp; (first | fail)); go_simp) | (refine Q0c ?_ ?_ ?_; (decide); (focus (go_simp; done)); go_simp))
        refine Q0d ?_
        intro w9 hx9
        have P9 := Lib.hid (P8.out.extend hx9)
        have hN : S.steps ≤ 1000000 := by omega
        have hsb : (begS S).seen.length ≤ 900000 := by show (S.seen ++ [_]).length ≤ _; rw [List.length_append]; simp only [List.length_cons, List.length_nil]; omega
        clear hx9 m0 m1 m2 m3 m4 k3 kp
        go_wp2_with fail
        have C := Qdu ⟨op, a, b, c, n⟩ Hiok.out Hfi.out Hr.out (HP.out.ext XB.out) Hmid1.out hN (by exact hat) hcode hsb P9.out
        simp only [insV] at C
        (with_reducible refine C.mono ?_)
        clear C
        rintro er w10 ⟨rfl, V10, P10, T10⟩
        have hovr : Q1c ⟨op, a, b, c, n⟩ (begS S) = Q1c ⟨op, a, b, c, n⟩ S := rfl
        rw [hovr]
        have HsS := Lib.hid (Q7j p ⟨op, a, b, c, n⟩ S)
        have Hbeg : Hid ((begS S).seen.length + bN (begS S).ahead ≤ 170002) := Lib.hid (by
         have h1 := Q4d (begS S).ahead
         have h2 : (begS S).seen.length = S.seen.length + 1 := by simp [begS]
         omega)
        clear hovr hsb
        generalize hT : doS p ⟨op, a, b, c, n⟩ (begS S) = T at *
        generalize Q1c ⟨op, a, b, c, n⟩ S = ob at *
        clear hT
        have hTs : T.seen.length ≤ 900000 := by
         have h1 := Hseen.out
         have h2 := Hbeg.out
         omega
        have g12 : w10.cell? ⟨g', 12, none⟩ = some (.bool T.ahead) := by rw [P10.box.cell]; rfl
        have g13 : w10.cell? ⟨g', 13, none⟩ = some (.int .i64 T.since) ∧ w10.frozen? ⟨g', 13, none⟩ = false := ⟨by rw [P10.box.cell]; rfl, P10.box.frozen _⟩
        have hgl10 := P10.box.lt
        have P10 := Lib.hid P10
        have hstn : S.steps < fuel.toNat := by omega
        clear T10
        cases hTa : T.ahead
        ·rw [hTa] at g12
         have Hs1 : Hid (Q11 p ⟨op, a, b, c, n⟩ S = T) := Lib.hid (by rw [HsS.out, hTa]; rfl)
         clear hTa
         go_wp2
         go_roundw
         case rel => exact ⟨Q11 p ⟨op, a, b, c, n⟩ S, _, Hok2.out, by rw [Q37]; omega, Hnext.out, by rw [Hs1.out]; exact P10.out⟩
         case measure =>
          have e1 := Hmeas.out
          have hb := Q4d T.ahead
          have e2 := Q5e P10.out fuel.toNat
          have e3 : T.steps = S.steps + 1 := by rw [← Hs1.out, Q37]
          rw [e1, e2, e3]
          omega
        ·rw [hTa] at g12
         have Hta := Lib.hid hTa
         have hs0 := Hmid2.out.s0
         have hs2 := Hmid2.out.s2 hTa
         have P11 : Hid (RSt W (w10.setCell ⟨g', 13, none⟩ (.int .i64 (T.since + 1))) g' (.slice oR p.regs.length cR) (.slice oC p.code.length cC) V10 (Q19 T)) := Lib.hid (P10.out.since_ (T.since + 1))
         cases ob
         ·by_cases h12 : T.since = 11
          ·have Hs1 : Hid (Q11 p ⟨op, a, b, c, n⟩ S = (Q19 T).returns) := Lib.hid (by rw [HsS.out, hTa]; simp [Q19, h12])
           rw [h12] at g13
           have P11 := P10.out.since_ 12
           rw [show ({ T with since := 12 } : Spc) = Q19 T by simp [Q19, h12]] at P11
           have P11 := Lib.hid P11
           clear hTa h12 hs0 hs2
           go_wp2_with fail
           have C := Q7v P11.out Hta.out (by exact Nat.le_trans hTs (by omega))
           (with_reducible refine C.mono ?_)
           clear C
           rintro er w12 ⟨rfl, V12, P12, T12⟩
           have P12 := Lib.hid P12
           go_wp2
           go_roundw
           case rel => exact ⟨Q11 p ⟨op, a, b, c, n⟩ S, _, Hok2.out, by rw [Q37]; omega, Hnext.out, by rw [Hs1.out]; exact P12.out⟩
           case measure =>
            have e1 := Hmeas.out
            have hb := Q4d (Q19 T).returns.ahead
            have e2 := Q5e P12.out fuel.toNat
            have e3 : (Q19 T).returns.steps = S.steps + 1 := by rw [← Hs1.out, Q37]
            rw [e1, e2, e3]
            omega
          ·have Hs1 : Hid (Q11 p ⟨op, a, b, c, n⟩ S = Q19 T) := Lib.hid (by
            have h12' : ¬ T.since + 1 = 12 := by omega
            rw [HsS.out, hTa]; simp [Q19, h12'])
           have q12 : (T.since + 1 == (12 : Int)) = false := by simp; omega
           have P12 := P11
           clear hTa
           go_wp2
           go_roundw
           case rel => exact ⟨Q11 p ⟨op, a, b, c, n⟩ S, _, Hok2.out, by rw [Q37]; omega, Hnext.out, by rw [Hs1.out]; exact P12.out⟩
           case measure =>
            have e1 := Hmeas.out
            have hb := Q4d (Q19 T).ahead
            have e2 := Q5e P12.out fuel.toNat
            have e3 : (Q19 T).steps = S.steps + 1 := by rw [← Hs1.out, Q37]
            rw [e1, e2, e3]
            omega
         ·have Hs1 : Hid (Q11 p ⟨op, a, b, c, n⟩ S = (Q19 T).returns) := Lib.hid (by rw [HsS.out, hTa]; simp)
          clear hTa
          go_wp2_with fail
          have C := Q7v P11.out Hta.out (by exact Nat.le_trans hTs (by omega))
          (with_reducible refine C.mono ?_)
          clear C
          rintro er w12 ⟨rfl, V12, P12, T12⟩
          have P12 := Lib.hid P12
          go_wp2
          go_roundw
          case rel => exact ⟨Q11 p ⟨op, a, b, c, n⟩ S, _, Hok2.out, by rw [Q37]; omega, Hnext.out, by rw [Hs1.out]; exact P12.out⟩
          case measure =>
           have e1 := Hmeas.out
           have hb := Q4d (Q19 T).returns.ahead
           have e2 := Q5e P12.out fuel.toNat
           have e3 : (Q19 T).returns.steps = S.steps + 1 := by rw [← Hs1.out, Q37]
           rw [e1, e2, e3]
           omega
       ·have hd9 : decide ((p.code.length : Int) ≤ (S.pl.at_ : Int)) = true := by simp; omega
        have k3 : ∀ Wx, Ext wr Wx → Wx.cell? ⟨g', 3, none⟩ = some (.int .i64 (S.pl.at_ : Int)) := fun _ h => h.kept g3.1
        have kp : ∀ Wx, Ext wr Wx → Wx.cell? ⟨gb, 1, none⟩ = some (.slice oC p.code.length cC) := fun _ h => h.kept p1
        go_upto_region 9 with fail
        refine Q0i 9 (by kernel_rfl) (by kernel_rfl) ?_
        simp only [List.take_succ_cons, List.take_zero, List.drop_succ_cons, List.drop_zero]
        repeat (first | (refine Q0e ?_ ?_ (fun wc hE => ?_) ?_; (decide); rfl; (focus (go_simp; done)); go_simp) | (refine Q0a ?_ ?_ ?_; (decide); (first | rfl | (focus (go_simp; done))); apply Exists.intro; refine ⟨fun wc hE => ?_, ?_⟩; (go_simp; exact rfl); go_simp) | (refine Q0f ?_ ?_ ?_; (decide); (first | rfl | (focus (go_simp; done))); apply Exists.intro; refine ⟨fun wc hE => ?_, ?_⟩; (go_simp; (first | fail)); go_simp) | (refine Q0c ?_ ?_ ?_; (decide); (focus (go_simp; done)); go_simp))
        refine Q0d ?_
        intro w6 hx6
        have P6 := Lib.hid (P.out.extend hx6)
        have g12 := hx6.kept g12
        have hgl6 := P6.out.box.lt
        cases hah : S.ahead
        ·rw [hah] at g12
         have Hlast : Hid (F = { S with fin := 2 }) := Lib.hid (by rw [← Hrun.out]; exact Qa2 hk Hfin.out hah (by omega))
         have g6 := Q07 hx6 g6
         have P7 := Lib.hid (P6.out.fin_ 2)
         clear hx6 k3 kp hah g3 g8 p1
         go_wp2
         go_meet
         case rel => exact ⟨by rw [Hlast.out]; exact ⟨Hok.out.mid.fault 2, Hok.out.seen⟩, _, by rw [Hlast.out]; exact P7.out⟩
        ·rw [hah] at g12
         have Hah := Lib.hid hah
         have Hnext : Hid (runS p (fuel.toNat - S.returns.steps) S.returns = F) := Lib.hid (by rw [← Hrun.out]; exact (Qa0 hk Hfin.out hah (by omega)).symm)
         have Hok2 := Lib.hid (Hok.out.up hah)
         clear hx6 k3 kp hah g3 g8 p1 g6
         go_wp2_with fail
         have C := Q7v P6.out Hah.out (Nat.le_trans hsn (by omega))
         (with_reducible refine C.mono ?_)
         clear C
         rintro er w7 ⟨rfl, V7, P7, T7⟩
         have P7 := Lib.hid P7
         go_wp2
         go_roundw
         case rel => exact ⟨S.returns, V7, Hok2.out, hst, Hnext.out, P7.out⟩
         case measure =>
          have e1 := Hmeas.out
          have e2 := Q5e P7.out fuel.toNat
          rw [e1, e2, Hah.out]
          simp [Spc.returns, bN]
      ·have q6 : (S.fin == (0 : Int)) = false := by simpa using hfin
       have Hlast : Hid (F = S) := Lib.hid (by rw [← Hrun.out]; exact Qa1 hfin)
       clear hfin
       go_wp2
       go_meet
       case rel => exact ⟨by rw [Hlast.out]; exact Hok.out, V, by rw [Hlast.out]; exact P.out⟩
     ·have hlt2 : decide ((S.steps : Int) < fuel) = false := by simpa using hlt
      have Hlast : Hid (F = S) := Lib.hid (by rw [← Hrun.out, show fuel.toNat - S.steps = 0 by omega]; rfl)
      clear hlt
      go_wp2
      go_meet
      case rel => exact ⟨by rw [Hlast.out]; exact Hok.out, V, by rw [Hlast.out]; exact P.out⟩
   case rest =>
    obtain ⟨hokF, V7, P7⟩ := hcut
    have HwlF := Lib.hid (Qi2 hokF)
    have P7 := Lib.hid P7
    clear P1 HSt HF hokF
    have hgl7 := P7.out.box.lt
    have g12 : wc.cell? ⟨g', 12, none⟩ = some (.bool F.ahead) := by rw [P7.out.box.cell]; rfl
    go_upto_if 141 with fail
    go_cut [] from 138 to 148 (fun wx => ∃ V8, DSt W wx g' (.slice oR p.regs.length cR) (.slice oC p.code.length cC) V8 (endS F) (.slice none 0 0) [] [])
    case first =>
     cases ha : F.ahead
     ·have D0 := Lib.hid (P7.out.done ha)
      try rw [ha]
      clear ha g12
      go_wp2
      go_meet
      case rel => exact ⟨_, D0.out⟩
     ·have g0 : wc.cell? ⟨g', 0, none⟩ = some V7.vR ∧ wc.frozen? ⟨g', 0, none⟩ = false := ⟨by rw [P7.out.box.cell]; rfl, P7.out.box.frozen _⟩
      have g1 : wc.cell? ⟨g', 1, none⟩ = some V7.vW ∧ wc.frozen? ⟨g', 1, none⟩ = false := ⟨by rw [P7.out.box.cell]; rfl, P7.out.box.frozen _⟩
      have g2 : wc.cell? ⟨g', 2, none⟩ = some V7.vP ∧ wc.frozen? ⟨g', 2, none⟩ = false := ⟨by rw [P7.out.box.cell]; rfl, P7.out.box.frozen _⟩
      have g3 : wc.cell? ⟨g', 3, none⟩ = some (.int .i64 F.pl.at_) ∧ wc.frozen? ⟨g', 3, none⟩ = false := ⟨by rw [P7.out.box.cell]; rfl, P7.out.box.frozen _⟩
      have g14 : wc.cell? ⟨g', 14, none⟩ = some V7.bR := by rw [P7.out.box.cell]; rfl
      have g15 : wc.cell? ⟨g', 15, none⟩ = some V7.bW := by rw [P7.out.box.cell]; rfl
      have g16 : wc.cell? ⟨g', 16, none⟩ = some V7.bP := by rw [P7.out.box.cell]; rfl
      have g17 : wc.cell? ⟨g', 17, none⟩ = some (.int .i64 F.back.at_) := by rw [P7.out.box.cell]; rfl
      have hfb : Fam wc W.heap.size (Q1l V7.bR V7.bW V7.bs F.back) := by
       refine P7.out.core.fam.sub ?_
       unfold Q1z
       rw [if_pos ha]
       exact List.sublist_append_right _ _
      obtain ⟨oa, ca, ea⟩ := Q0m (hfb.at_ (i := 0) rfl)
      obtain ⟨ob, cb, eb⟩ := Q0m (hfb.at_ (i := 1) rfl)
      obtain ⟨oc, cc, ec⟩ := Q0m (P7.out.core.bout ha).1
      have D0 := P7.out.doneBack ha
      rw [ea, eb, ec] at D0
      rw [ea] at g14
      rw [eb] at g15
      rw [ec] at g16
      have D0 := Lib.hid D0
      try rw [ha]
      clear ha ea eb ec hfb g12
      go_wp2
      go_meet
      case rel => exact ⟨_, D0.out⟩
    case rest =>
     obtain ⟨V8, D0⟩ := hcut
     have D0 := Lib.hid D0
     obtain ⟨ow, cw, hvW⟩ := Q0m D0.out.ws
     rw [HwlF.out.1] at hvW
     have HvW := Lib.hid hvW
     clear hvW P7 g12
     go_wp2_with fail
     go_loopw [12] (fun i wr => ∃ (k : Nat) (vM : Value) (us : List Value), k ≤ p.regs.length ∧ i = .int .i64 k ∧ DSt W wr g' (.slice oR p.regs.length cR) (.slice oC p.code.length cC) V8 (endS F) vM ((Q0q p (endS F).pl.words).take k) us) (fun i _ => p.regs.length - (intOf i).toNat)
     case atStart => exact ⟨0, _, _, by omega, rfl, by simpa using D0.out⟩
     case round =>
      obtain ⟨k, vM, us, hk, rfl, hD⟩ := hrel
      have D := Lib.hid hD
      have bPr := BP.out.ext hD.ext
      have p0 : wr.cell? ⟨gb, 0, none⟩ = some (.slice oR p.regs.length cR) := by rw [bPr.cell]; rfl
      have p1 : wr.cell? ⟨gb, 1, none⟩ = some (.slice oC p.code.length cC) := by rw [bPr.cell]; rfl
      have hgbl2 := bPr.lt
      have hglr := hD.box.lt
      have hml : ((Q0q p (endS F).pl.words).take k).length = k := by rw [List.length_take, Q4k]; omega
      have hmem := hD.mem
      rw [hml] at hmem
      obtain ⟨oM, cM, rfl⟩ := Q0m hmem
      have Hmem := Lib.hid hmem
      have Hml := Lib.hid hml
      clear hD hmem hml bPr
      by_cases hlt : k < p.regs.length
      ·have hbe := Q6a p k hlt
       have Hlg := Lib.hid (Hlog.out _ (Q1f hlt))
       obtain ⟨e0, e1⟩ := (Hrow.out.ext (XB.out.trans D.out.ext)).reg k hlt
       have Htk : Hid ((Q0q p (endS F).pl.words).take (k + 1) = (Q0q p (endS F).pl.words).take k ++ [((endS F).pl.words.drop (Q0k p k)).take (Q09 (p.regs.getD k default))]) := Lib.hid (by
        rw [List.take_succ_eq_append_getElem (by rw [Q4k]; exact hlt), ← Q7m _ hlt]
        simp [Q4k, hlt])
       have hw1 : 0 < Q09 (p.regs.getD k default) := Q9a _
       have hw6 : Q09 (p.regs.getD k default) ≤ 64 := Q4i _ Hlg.out.2
       generalize p.regs.getD k default = rr at *
       have hbl := Q0s e0
       simp only at hbl
       go_wp2_with fail
       have C := Qak p (k : Int) (.agg #[.slice oR p.regs.length cR, .slice oC p.code.length cC]) wr (HP.out.ext (XB.out.trans D.out.ext)) Hr.out (by omega) (by simpa using hlt)
       (with_reducible refine C.mono ?_)
       clear C
       rintro er wx1 ⟨rfl, hx1⟩
       rw [Int.toNat_natCast]
       have p0 := hx1.kept p0
       have e0 := hx1.kept e0
       have e1 := hx1.kept e1
       have hgbl3 := hx1.lt hgbl2
       have hbl3 := hx1.lt hbl
       go_wp2_with fail
       have C := Q55 rr Hlg.out.1 Hlg.out.2 wx1
       (with_reducible refine C.mono ?_)
       clear C
       rintro er wx2 ⟨rfl, hx2⟩
       have D2 := Lib.hid (D.out.extend (hx1.trans hx2))
       have hws2 := D2.out.ws
       rw [HvW.out, HwlF.out.1] at hws2
       obtain ⟨kw, cw', hvw, hkB, hcw⟩ := own_at' hws2 (by omega)
       simp only [Value.slice.injEq, true_and] at hvw
       obtain ⟨rfl, rfl⟩ := hvw
       have hcapw : Q0b p ≤ cw := (own_cap' hws2).1
       have hcapm : cw ≤ maxLen := (own_cap' hws2).2
       have hsrc : Src wx2 1 (some ⟨kw, Q0k p k, none⟩) (Q09 rr) ((((endS F).pl.words.drop (Q0k p k)).take (Q09 rr)).map (Value.int .i64)) := Qcr hws2 HwlF.out.1 hbe
       have hlen2 : (((endS F).pl.words.drop (Q0k p k)).take (Q09 rr)).length = Q09 rr := by rw [List.length_take, List.length_drop, HwlF.out.1]; omega
       have Hsrc := Lib.hid hsrc
       have Hlen2 := Lib.hid hlen2
       have k1 : ∀ Wx, Ext wx2 Wx → Wx.cell? ⟨g', 1, none⟩ = some (.slice (some ⟨kw, 0, none⟩) (Q0b p) cw) := fun _ h => h.kept (by rw [D2.out.box.cell, ← HvW.out]; rfl)
       have k10 : ∀ Wx, Ext wx2 Wx → Wx.cell? ⟨g', 10, none⟩ = some (.slice oM k cM) := fun _ h => h.kept (by rw [D2.out.box.cell]; rfl)
       have hgl2 := D2.out.box.lt
       have Hmem2 := Lib.hid (Q1m Hmem.out (hx1.trans hx2))
       have hbs2 := D2.out.ext.size
       have hb384 : (Q0k p k : Int) + (Q09 rr : Int) ≤ 384 := by omega
       have hbn : (Q0k p k : Int) + (Q09 rr : Int) ≤ (cw : Int) := by omega
       generalize hll : ((endS F).pl.words.drop (Q0k p k)).take (Q09 rr) = ll at *
       generalize hbo : Q0k p k = bo at *
       generalize hwn : Q09 rr = wn at *
       clear hx1 hx2 p0 p1 e0 e1 hws2 hcw hsrc hlen2 hgbl2 hgbl3 hglr hbl hbl3 hll hbo hwn
       go_upto_region 27 with fail
       have hwr : IntKind.i64.wrap ((bo : Int) + (wn : Int)) = (bo : Int) + (wn : Int) := Go.IntWalk.i64_in _ (by omega)
       have hcb : ¬ cw = bo := by omega
       have hsub : ((bo : Int) + (wn : Int)).toNat - bo = wn := by omega
       have hsl := Qcy kw (Q0b p) cw bo wn (by omega) hcapw hw1
       refine Q27 [6, 17, 18, 19, 20, 21, 22, 23] 3 (by kernel_rfl) (by kernel_rfl) ?_
       repeat (first | (refine Q2r ?_ ?_; (decide)) | (refine Q2k ?_ ?_ ?_; (decide); (first | rfl | (focus (go_simp; done))); apply Exists.intro; refine ⟨fun wc hE => ?_, ?_⟩; (go_simp; exact rfl); go_simp) | (refine Q2p ?_ ?_ ?_; (decide); (focus (go_simp; done)); go_simp))
       refine Q2q ?_
       intro w3 hx3
       have D3 := Lib.hid (D2.out.extend hx3)
       have HX3 := Lib.hid hx3
       have h3s := D3.out.ext.size
       clear k1 k10 hx3
       refine Q2m rfl ?_
       go_wp2
       refine ⟨HX3.out.alloc _, ?_⟩
       refine Q2m rfl ?_
       refine Q2e _ rfl (.tmp 171) (.tmp 181) 52 rfl W.heap.size 2 i0 _ 1 8 Try.underlying52 hi0 hz0 hz1 hz2 rfl (by decide) _ 0 [] rfl ?c0 (some ⟨kw, bo, none⟩) wn (cw - bo) (ll.map (Value.int .i64)) rfl ?c1 ?c3 ?c4 ?c5 ?_
       case c0 =>
        have h := World.ownsRow_lit (base := W.heap.size) (e := 2) (size := 1) w3 #[] 0 h3s (by decide) rfl
        simpa [Act.eval] using h
       case c1 => exact Hsrc.out.ext (HX3.out.alloc _)
       case c3 => unfold maxLen; omega
       case c4 => omega
       case c5 => simp; omega
       intro v4 w4 hown hgrow hat
       obtain ⟨o4, c4, rfl⟩ := Q0m hown
       have X4 : Hid (Ext wx2 w4) := Lib.hid ((HX3.out.alloc _).grown hgrow (by
        intro k hk
        simp [Act.eval, Value.ownBlock] at hk
        have := HX3.out.size
        omega))
       have H4o : Hid (w4.ownsRow W.heap.size 2 1 (.slice o4 wn c4) wn (ll.map (Value.int .i64))) := Lib.hid (by simpa using hown)
       clear hown hgrow hat
       go_wp2
       refine ⟨X4.out, ?_⟩
       refine Q2m rfl ?_
       go_wp2
       refine ⟨X4.out.alloc _, ?_⟩
       have h4s := X4.out.size
       refine Q20 (Q0j rfl (Q0j rfl (Q0j rfl (Q0j rfl (Q0j rfl (Q24)))))) ?_
       refine Q2e _ rfl (.tmp 170) (.tmp 183) 26 rfl W.heap.size 52 j0 _ 1 24 Try.underlying26 hj0 hy0 hy1 hy2 rfl (by decide) _ k us rfl (Q3t (Q1m Hmem2.out X4.out)) (some ⟨w4.heap.size, 0, none⟩) 1 1 [.slice o4 wn c4] rfl ?d1 ?d3 ?d4 ?d5 ?_
       case d1 => exact Q3l (size := 1) (Blk.new w4 52 #[.slice o4 wn c4]) rfl (by simp [Value.oneCell'])
       case d3 => unfold maxLen; omega
       case d4 => omega
       case d5 => simp; omega
       intro v5 w5 hown hgrow hat
       obtain ⟨o5, c5, rfl⟩ := Q0m hown
       have hgrow : (w4.alloc (.cells #[.slice o4 wn c4] 52)).grownBy w5 (Value.slice oM k cM).ownBlock := hgrow
       have D5 := D2.out.push (X4.out.alloc (.cells #[.slice o4 wn c4] 52)) (l := ll) (Q3t (by rw [Hlen2.out]; exact H4o.out)) hgrow (by rw [Hml.out]; exact hown)
       have HD5 := Lib.hid D5
       have D2x := D2.out.extend (X4.out.alloc (.cells #[.slice o4 wn c4] 52))
       have hb5 := D2x.box.grown hgrow (Q06 D2x.mem D2x.box (by decide))
       have q10 : w5.cell? ⟨g', 10, none⟩ = some (.slice oM k cM) ∧ w5.frozen? ⟨g', 10, none⟩ = false := ⟨by rw [hb5.cell]; rfl, hb5.frozen _⟩
       have hgl5 := hb5.lt
       clear hown hgrow hat D5 D2x hb5
       go_wp2
       go_roundw
       case rel => exact ⟨k + 1, _, _, by omega, by go_num, by rw [Htk.out]; exact HD5.out⟩
       case measure => first | (simp [intOf]; done) | (simp [intOf]; omega)
      ·have hke : k = p.regs.length := by omega
       subst hke
       have hlt2 : decide ((p.regs.length : Int) < (p.regs.length : Int)) = false := by simp
       have hfull : (Q0q p (endS F).pl.words).take p.regs.length = Q0q p (endS F).pl.words := List.take_of_length_le (by rw [Q4k]; omega)
       have D1 := D.out
       rw [hfull] at D1
       have hres := BRes.out.ext D1.ext
       have r0 : wr.cell? ⟨gb + 1, 0, none⟩ = some (.int .i64 0) ∧ wr.frozen? ⟨gb + 1, 0, none⟩ = false := ⟨by rw [hres.cell]; rfl, hres.frozen _⟩
       have r1 : wr.cell? ⟨gb + 1, 1, none⟩ = some (.int .i64 0) ∧ wr.frozen? ⟨gb + 1, 1, none⟩ = false := ⟨by rw [hres.cell]; rfl, hres.frozen _⟩
       have r2 : wr.cell? ⟨gb + 1, 2, none⟩ = some (.int .i64 0) ∧ wr.frozen? ⟨gb + 1, 2, none⟩ = false := ⟨by rw [hres.cell]; rfl, hres.frozen _⟩
       have r3 : wr.cell? ⟨gb + 1, 3, none⟩ = some (.slice none 0 0) ∧ wr.frozen? ⟨gb + 1, 3, none⟩ = false := ⟨by rw [hres.cell]; rfl, hres.frozen _⟩
       have r4 : wr.cell? ⟨gb + 1, 4, none⟩ = some (.slice none 0 0) ∧ wr.frozen? ⟨gb + 1, 4, none⟩ = false := ⟨by rw [hres.cell]; rfl, hres.frozen _⟩
       obtain ⟨ov, ovc, hvS⟩ := Q0m D1.sn
       have g6 : wr.cell? ⟨g', 6, none⟩ = some (.int .i64 (endS F).fin) := by rw [D1.box.cell]; rfl
       have g7 : wr.cell? ⟨g', 7, none⟩ = some (.int .i64 (endS F).value) := by rw [D1.box.cell]; rfl
       have g8 : wr.cell? ⟨g', 8, none⟩ = some (.int .i64 ((endS F).steps : Int)) := by rw [D1.box.cell]; rfl
       have g9 : wr.cell? ⟨g', 9, none⟩ = some (.slice ov (endS F).seen.length ovc) := by rw [D1.box.cell, ← hvS]; rfl
       have g10 : wr.cell? ⟨g', 10, none⟩ = some (.slice oM p.regs.length cM) := by rw [D1.box.cell]; rfl
       have hrl := hres.lt
       have h64e : ∀ l ∈ Q0q p (endS F).pl.words, ∀ x ∈ l, R64 x := Q9b p _ R64 HwlF.out.2.mem
       have hgW : gb + 1 < W.heap.size := BRes.out.lt
       have hgw : w.heap.size ≤ gb + 1 := by omega
       have HR := Lib.hid (D1.result h64e hgW (.int .i64 (endS F).fin) (.int .i64 (endS F).value) (.int .i64 ((endS F).steps : Int)) (.slice ov (endS F).seen.length ovc) (.slice oM p.regs.length cM))
       have HX := Lib.hid ((((((XB.out.trans D1.ext).setCell (p := ⟨gb + 1, 0, none⟩) hgw (.int .i64 (endS F).fin)).setCell (p := ⟨gb + 1, 1, none⟩) hgw (.int .i64 (endS F).value)).setCell (p := ⟨gb + 1, 2, none⟩) hgw (.int .i64 ((endS F).steps : Int))).setCell (p := ⟨gb + 1, 3, none⟩) hgw (.slice ov (endS F).seen.length ovc)).setCell (p := ⟨gb + 1, 4, none⟩) hgw (.slice oM p.regs.length cM))
       have HB := Lib.hid (((((hres.set_ 0 (.int .i64 (endS F).fin)).set_ 1 (.int .i64 (endS F).value)).set_ 2 (.int .i64 ((endS F).steps : Int))).set_ 3 (.slice ov (endS F).seen.length ovc)).set_ 4 (.slice oM p.regs.length cM))
       rw [hvS] at HR
       generalize endS F = E at *
       clear hfull D1 hres hvS h64e
       go_wp2
       exact bodyPost_ret (Q5y HB.out rfl _ rfl Try.underlying30 rfl (by kernel_rfl)) rfl ⟨_, rfl, HR.out, HX.out⟩
end Go.Proofs.Ytalpnmjaafcpoaa
