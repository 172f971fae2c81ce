/- Laid together from: Seq3, Seq4, Seq5, Form5. -/
import Derived.Test.YteiknefajlocoaaSeqLongerB15
import Derived.Test.YteiknefajlocoaaSeqLongerB10
import Derived.Test.YteiknefajlocoaaSeqLongerB13

/- Walk of the program's word: a word taken or put. -/
namespace Go.Proofs.Yteiknefajlocoaa
open Go.ChangeShapes Go.WideShapes Go.ChangeAt Go.RowKit
set_option linter.unusedVariables false
set_option linter.unusedSimpArgs false

def basesOf (p : LProg) : List Int := (List.range p.regs.length).map fun k => (baseOf p k : Int)
theorem bases_len (p : LProg) : (basesOf p).length = p.regs.length := by simp [basesOf]
theorem bases_get (p : LProg) {c : Nat} (h : c < p.regs.length) : ((basesOf p).map (Value.int .i64))[c]? = some (.int .i64 (baseOf p c : Nat)) := by simp [basesOf, h]
theorem index_int0 (k n cap : Nat) (W : World) (i : Int) (h0 : 0 ≤ i) (h1 : i < n) :
    (Instr.indexAt 51 (.slice (some ⟨k, 0, none⟩) n cap) (.int .i64 i)).run Try.prog W = .ok (.pointer (some ⟨k, i.toNat, none⟩)) W := by
  have hs : (Try.prog.info? 3).map (·.size) = some 1 := by kernel_rfl
  simp [Instr.indexAt, run_underlying Try.underlying51, asIntOf, h0, h1]
  have := addr_add k 0 i.toNat
  simpa using this
/-- where a row of the call's own lies -/
theorem own_at {w : World} {B : Nat} {e : TypeId} {v : Value} {n : Nat} {xs : List Value} (h : w.ownsRow B e 1 v n xs) (hn : 0 < n) : ∃ k cap, v = .slice (some ⟨k, 0, none⟩) n cap ∧ B ≤ k ∧ ∀ j x, j < n → xs[j]? = some x → w.cell? ⟨k, j, none⟩ = some x ∧ w.frozen? ⟨k, j, none⟩ = false := by
  have h' := h
  rcases h.2 with ⟨-, h0⟩ | ⟨k, cap, cur, rfl, a1, a2, a3⟩
  · omega
  · exact ⟨k, cap, rfl, a1, fun j x hj hx => ⟨by rw [h'.cellAt j (by omega), hx], h'.frozenAt j⟩⟩
def wordM (p : LProg) (i : LIns) (M : Mach) : Mach :=
  let q := baseOf p i.c.toNat + (idxOf M.regs i).toNat
  if isPut i then { M with seen := M.seen ++ [⟨2, (q : Nat), putN i⟩], words := M.words.set q (rg M.regs i.a) }
  else { M with seen := M.seen ++ [⟨2, (q : Nat), putN i⟩], regs := rset M.regs i.a (M.words.getD q 0) }
def WordPost (p : LProg) (w : World) (B g : Nat) (vR vC vM vB vW : Value) (bases : List Int) (M : Mach) (i : LIns) (e : Ending) (w' : World) : Prop :=
  (insideB p i (idxOf M.regs i) = true ∧ e = .returned (.bool true) ∧ ∃ vS', MSt w' B g vR vC vM vB vS' vW bases (wordM p i M) ∧ Below B w w') ∨ (insideB p i (idxOf M.regs i) = false ∧ e = .returned (.bool false) ∧ Ext w w')
theorem MSt.below {w w' : World} {B g : Nat} {vR vC vM vB vS vW : Value} {bases : List Int} {M : Mach} (h : MSt w B g vR vC vM vB vS vW bases M) (ht : Turn (fun j => j = g ∨ vS.ownBlock = some j) w w') : Below B w w' :=
  ht.below h.size (by
    rintro j (rfl | e)
    · exact h.hg
    · exact own_base h.sn j e)
set_option maxRecDepth 100000 in
set_option maxHeartbeats 4000000 in
theorem word_c (p : LProg) (i : LIns) {B g : Nat} {vR vC vM vB vS vW : Value} {M : Mach} (hw : i.op = 3 ∨ i.op = 4 ∨ i.op = 5 ∨ i.op = 6) (hi : insOk p 10 i = true) (hr : regsOk p.regs = true) (hok : MOk p M) (hsn : M.seen.length ≤ 1000000) (w : World) (hR : RegsAt w vR p.regs) (h : MSt w B g vR vC vM vB vS vW (basesOf p) M) :
    Calls Try.prog 109 #[.pointer (some ⟨g, 0, none⟩), insV i] w (WordPost p w B g vR vC vM vB vW (basesOf p) M i) := by
  obtain ⟨ha, hb, hc0, hc1⟩ := word_parts hi hw
  have hbe := base_end p i.c.toNat hc1
  have htt := total_le hr
  have hlen := regsOk_len hr
  have hw6 : wordsOf (p.regs.getD i.c.toNat default) ≤ 64 := words_le _ (regsOk_log hr _ (getD_mem hc1)).2
  have H := Lib.hid h
  have HR := Lib.hid hR
  have Hr := Lib.hid hr
  have Hok := Lib.hid hok
  have Ha := Lib.hid ha
  have Hb := Lib.hid hb
  have Hc1 := Lib.hid hc1
  have hgl := h.box.lt
  have hwl := hok.wlen
  have Hput : Hid (putN i = if isPut i then 1 else 0) := Lib.hid rfl
  have HW : Hid (∀ w', insideB p i (idxOf M.regs i) = true → (∃ vS', MSt w' B g vR vC vM vB vS' vW (basesOf p) (wordM p i M) ∧ Below B w w') → WordPost p w B g vR vC vM vB vW (basesOf p) M i (.returned (.bool true)) w') := Lib.hid fun w' h1 h2 => .inl ⟨h1, rfl, h2⟩
  have HW2 : Hid (∀ w', insideB p i (idxOf M.regs i) = false → Ext w w' → WordPost p w B g vR vC vM vB vW (basesOf p) M i (.returned (.bool false)) w') := Lib.hid fun w' h1 h2 => .inr ⟨h1, rfl, h2⟩
  have HM : Hid (wordM p i M = if isPut i then { M with seen := M.seen ++ [⟨2, ((baseOf p i.c.toNat + (idxOf M.regs i).toNat : Nat) : Int), putN i⟩], words := M.words.set (baseOf p i.c.toNat + (idxOf M.regs i).toNat) (rg M.regs i.a) }
    else { M with seen := M.seen ++ [⟨2, ((baseOf p i.c.toNat + (idxOf M.regs i).toNat : Nat) : Int), putN i⟩], regs := rset M.regs i.a (M.words.getD (baseOf p i.c.toNat + (idxOf M.regs i).toNat) 0) }) := Lib.hid rfl
  generalize WordPost p w B g vR vC vM vB vW (basesOf p) M i = WP at *
  obtain ⟨op, a, b, c, n⟩ := i
  simp only at ha hb hc0 hc1 hbe hw6
  obtain ⟨a0, a1⟩ := okIn_iff.1 ha
  have CI := Lib.hid fun w' (hx : Ext w w') => index_c w' (h.ext hx) ⟨op, a, b, c, n⟩ hb
  have CP := Lib.hid fun w' => puts_c ⟨op, a, b, c, n⟩ w'
  simp only [insV] at CI CP
  have HIn : Hid (∀ x, insideB p ⟨op, a, b, c, n⟩ x = (decide (0 ≤ x) && decide (x < (wordsOf (p.regs.getD c.toNat default) : Nat)))) := Lib.hid fun x => rfl
  unfold insV
  simp only
  clear hok hi hr hR hw h
  go_enter Try.func109, Try.ntmps109
  go_wp2_with fail
  obtain ⟨w0, e, he, hW, hs0, hx0, c0, c1, c2, c3, c4⟩ := new5 w 70 (.int .i64 op) (.int .i64 a) (.int .i64 b) (.int .i64 c) (.int .i64 n)
  rw [hW, he]
  have X := Lib.hid hx0
  have hge : g ≠ e := by omega
  have hew : w.heap.size = e := he
  clear hW hs0 hx0
  (with_reducible refine (CI.out w0 X.out).mono ?_)
  clear CI
  rintro er w1 ⟨rfl, hx⟩
  generalize idxOf M.regs ⟨op, a, b, c, n⟩ = x at *
  have X := Lib.hid (X.out.trans hx)
  have c0 := hx.kept c0
  have c1 := hx.kept c1
  have c2 := hx.kept c2
  have c3 := hx.kept c3
  have c4 := hx.kept c4
  clear hx
  go_wp2_with fail
  have C := inside_c w1 (H.out.ext X.out) p (HR.out.ext X.out) Hr.out c x hc0 hc1
  have Hc0 := Lib.hid hc0
  rw [← HIn.out] at C
  have HIx := Lib.hid (HIn.out x)
  cases hin : insideB p ⟨op, a, b, c, n⟩ x
  · rw [hin] at C HIx HW2
    (with_reducible refine C.mono ?_)
    clear C
    rintro er w2 ⟨rfl, hx⟩
    have X := Lib.hid (X.out.trans hx)
    clear hx hin
    go_wp2
    exact HW2.out _ (by trivial) X.out
  rw [hin] at C HIx HW
  (with_reducible refine C.mono ?_)
  clear C
  rintro er w2 ⟨rfl, hx⟩
  have hi2 := HIx.out.symm
  simp only [Bool.and_eq_true, decide_eq_true_eq] at hi2
  obtain ⟨hx0, hx1⟩ := hi2
  have X := Lib.hid (X.out.trans hx)
  have c0 := hx.kept c0
  have c1 := hx.kept c1
  have c2 := hx.kept c2
  have c3 := hx.kept c3
  have c4 := hx.kept c4
  have P := H.out.ext X.out
  obtain ⟨-, -, -, -, -, -, -, g17, -, g19⟩ := P.cells
  obtain ⟨kw, capw, hvw, hkw, hws⟩ := own_at P.ws (show 0 < M.words.length by omega)
  obtain ⟨kb, capb, hvb, hkb, hbs⟩ := own_at P.bs (show 0 < (basesOf p).length by rw [bases_len]; omega)
  obtain ⟨b19, -⟩ := hbs c.toNat _ (by rw [bases_len]; omega) (bases_get p hc1)
  have P := Lib.hid P
  rw [bases_len] at hvb
  subst hvw
  subst hvb
  have hbb : (baseOf p c.toNat : Int) ≤ 384 := by omega
  have hcl : c < (p.regs.length : Int) := by omega
  have hql : baseOf p c.toNat + x.toNat < M.words.length := by omega
  have hixw : ∀ W, (Instr.indexAt 71 (.slice (some ⟨kw, 0, none⟩) M.words.length capw) (.int .i64 ((baseOf p c.toNat : Int) + x))).run Try.prog W = .ok (.pointer (some ⟨kw, baseOf p c.toNat + x.toNat, none⟩)) W := fun W => by
    have := index_row W kw M.words.length capw ((baseOf p c.toNat : Int) + x) (by omega) (by omega)
    rw [show ((baseOf p c.toNat : Int) + x).toNat = baseOf p c.toNat + x.toNat by omega] at this
    exact this
  have Hq : Hid ((baseOf p c.toNat : Int) + x = ((baseOf p c.toNat + x.toNat : Nat) : Int)) := Lib.hid (by omega)
  have Hql := Lib.hid hql
  have hwr : IntKind.i64.wrap ((baseOf p c.toNat : Int) + x) = (baseOf p c.toNat : Int) + x := Go.IntWalk.i64_in _ (by omega)
  clear hwl
  clear hx hin hws hbs HW2 HIx HIn HR
  generalize hbo : baseOf p c.toNat = bo at *
  have hixb := index_int0 kb p.regs.length capb
  have hixr := index_arr
  go_upto_region 4 with fail
  have k3 : ∀ W, Ext w2 W → W.cell? ⟨e, 3, none⟩ = some (.int .i64 c) := fun _ h => h.kept c3
  have k17 : ∀ W, Ext w2 W → W.cell? ⟨g, 17, none⟩ = some (.slice (some ⟨kw, 0, none⟩) M.words.length capw) := fun _ h => h.kept g17.1
  have k19 : ∀ W, Ext w2 W → W.cell? ⟨g, 19, none⟩ = some (.slice (some ⟨kb, 0, none⟩) p.regs.length capb) := fun _ h => h.kept g19.1
  have kb9 : ∀ W, Ext w2 W → W.cell? ⟨kb, c.toNat, none⟩ = some (.int .i64 (bo : Int)) := fun _ h => h.kept b19
  refine region_calm 17 (by kernel_rfl) (by kernel_rfl) ?_
  simp only [List.take_succ_cons, List.take_zero, List.drop_succ_cons, List.drop_zero]
  repeat (first | (refine calm_fresh ?_ ?_ (fun wc hE => ?_) ?_; (decide); rfl; (focus (go_simp; done)); go_simp) | (refine calm_value ?_ ?_ ?_; (decide); (first | rfl | (focus (go_simp; done))); apply Exists.intro; refine ⟨fun wc hE => ?_, ?_⟩; (go_simp; exact rfl); go_simp) | (refine calm_call ?_ ?_ ?_; (decide); (first | rfl | (focus (go_simp; done))); apply Exists.intro; refine ⟨fun wc hE => ?_, ?_⟩; (go_simp; (first | fail)); go_simp) | (refine calm_skip ?_ ?_ ?_; (decide); (focus (go_simp; done)); go_simp))
  refine calm_nil ?_
  intro w3 hx
  clear k3 k17 k19 kb9
  have X := Lib.hid (X.out.trans hx)
  have P := Lib.hid (P.out.ext hx)
  have c0 := hx.kept c0
  have c1 := hx.kept c1
  have c2 := hx.kept c2
  have c3 := hx.kept c3
  have c4 := hx.kept c4
  have g19 := hx.kept g19.1
  have b19 := hx.kept b19
  clear hx g17
  go_wp2_with fail
  cases hput : isPut ⟨op, a, b, c, n⟩
  · rw [hput] at CP
    simp only [hput, if_true, Bool.false_eq_true, if_false] at Hput HM
    rw [Hput.out] at HM
    clear Hput hput
    (with_reducible refine (CP.out w3).mono ?_)
    clear CP
    rintro er w4 ⟨rfl, hx⟩
    have X := Lib.hid (X.out.trans hx)
    have P := Lib.hid (P.out.ext hx)
    have c1 := hx.kept c1
    have c3 := hx.kept c3
    have g19 := hx.kept g19
    have b19 := hx.kept b19
    clear hx c0 c2 c4
    go_upto_region 8 with fail
    have k3 : ∀ W, Ext w4 W → W.cell? ⟨e, 3, none⟩ = some (.int .i64 c) := fun _ h => h.kept c3
    have k19 : ∀ W, Ext w4 W → W.cell? ⟨g, 19, none⟩ = some (.slice (some ⟨kb, 0, none⟩) p.regs.length capb) := fun _ h => h.kept g19
    have kb9 : ∀ W, Ext w4 W → W.cell? ⟨kb, c.toNat, none⟩ = some (.int .i64 (bo : Int)) := fun _ h => h.kept b19
    refine region_calm 12 (by kernel_rfl) (by kernel_rfl) ?_
    simp only [List.take_succ_cons, List.take_zero, List.drop_succ_cons, List.drop_zero]
    repeat (first | (refine calm_fresh ?_ ?_ (fun wc hE => ?_) ?_; (decide); rfl; (focus (go_simp; done)); go_simp) | (refine calm_value ?_ ?_ ?_; (decide); (first | rfl | (focus (go_simp; done))); apply Exists.intro; refine ⟨fun wc hE => ?_, ?_⟩; (go_simp; exact rfl); go_simp) | (refine calm_call ?_ ?_ ?_; (decide); (first | rfl | (focus (go_simp; done))); apply Exists.intro; refine ⟨fun wc hE => ?_, ?_⟩; (go_simp; (first | fail)); go_simp) | (refine calm_skip ?_ ?_ ?_; (decide); (focus (go_simp; done)); go_simp))
    refine calm_nil ?_
    intro w5 hx
    clear k3 k19 kb9
    have X := Lib.hid (X.out.trans hx)
    have P := Lib.hid (P.out.ext hx)
    have c1 := hx.kept c1
    clear hx c3 g19 b19
    go_wp2_with fail
    (with_reducible refine (see_c w5 P.out 2 ((bo : Int) + x) 0 hsn).mono ?_)
    rintro er w6 ⟨rfl, vS2, P2, T2, N2⟩
    have hne : ¬ (e = g ∨ vS.ownBlock = some e) := by
      rintro (h1 | h1)
      · omega
      · have := (H.out.sn.lt e h1).2
        omega
    have hel := block_lt c1
    simp only at hel
    have c1 : w6.cell? ⟨e, 1, none⟩ = some (.int .i64 a) := by rw [cell_turn T2 hel hne]; exact c1
    have HB := Lib.hid ((P.out.below T2))
    have hwq : w6.cell? ⟨kw, bo + x.toNat, none⟩ = some (.int .i64 (M.words.getD (bo + x.toNat) 0)) ∧ w6.frozen? ⟨kw, bo + x.toNat, none⟩ = false := by
      have h0 := P2.ws.cellAt (bo + x.toNat) (by simpa using Hql.out)
      have h1 := P2.ws.frozenAt (bo + x.toNat)
      refine ⟨?_, by simpa using h1⟩
      rw [h0]
      simp [Hql.out]
    obtain ⟨ra, fa⟩ := P2.reg Ha.out
    simp only at ra
    rw [Hq.out] at P2
    have P2 := Lib.hid P2
    have hgl := P2.out.box.lt
    have hkl := block_lt hwq.1
    simp only at hkl
    clear T2 N2 hne
    go_upto_region 11 with fail
    have k1 : ∀ W, Ext w6 W → W.cell? ⟨e, 1, none⟩ = some (.int .i64 a) := fun _ h => h.kept c1
    have ka : ∀ W, Ext w6 W → W.cell? ⟨kw, bo + x.toNat, none⟩ = some (.int .i64 (M.words.getD (bo + x.toNat) 0)) := fun _ h => h.kept hwq.1
    have rr : w6.cell? ⟨g, 7 + a.toNat, none⟩ = some (.int .i64 (rg M.regs a)) ∧ w6.frozen? ⟨g, 7 + a.toNat, none⟩ = false := ⟨ra, fa⟩
    generalize M.words.getD (bo + x.toNat) 0 = z at *
    refine region_calm 9 (by kernel_rfl) (by kernel_rfl) ?_
    simp only [List.take_succ_cons, List.take_zero, List.drop_succ_cons, List.drop_zero]
    repeat (first | (refine calm_fresh ?_ ?_ (fun wc hE => ?_) ?_; (decide); rfl; (focus (go_simp; done)); go_simp) | (refine calm_value ?_ ?_ ?_; (decide); (first | rfl | (focus (go_simp; done))); apply Exists.intro; refine ⟨fun wc hE => ?_, ?_⟩; (go_simp; exact rfl); go_simp) | (refine calm_call ?_ ?_ ?_; (decide); (first | rfl | (focus (go_simp; done))); apply Exists.intro; refine ⟨fun wc hE => ?_, ?_⟩; (go_simp; (first | fail)); go_simp) | (refine calm_skip ?_ ?_ ?_; (decide); (focus (go_simp; done)); go_simp))
    refine calm_nil ?_
    intro w7 hx
    have rr := kept2 hx rr
    have P2 := Lib.hid (P2.out.ext hx)
    have HB := Lib.hid ((HB.out.trans (Below.mono hx (Nat.le_trans P.out.size (HB.out.size)))))
    clear k1 ka hx ra fa c1 hwq
    go_wp2
    refine HW.out _ (by trivial) ⟨vS2, ?_, ?_⟩
    · have := P2.out.reg_ Ha.out z
      rw [HM.out]
      exact this
    · exact (Below.mono X.out H.out.size).trans (HB.out.setCell P2.out.hg _)
  · rw [hput] at CP
    simp only [hput, if_true, Bool.false_eq_true, if_false] at Hput HM
    rw [Hput.out] at HM
    clear Hput hput
    (with_reducible refine (CP.out w3).mono ?_)
    clear CP
    rintro er w4 ⟨rfl, hx⟩
    have X := Lib.hid (X.out.trans hx)
    have P := Lib.hid (P.out.ext hx)
    have c1 := hx.kept c1
    have c3 := hx.kept c3
    have g19 := hx.kept g19
    have b19 := hx.kept b19
    clear hx c0 c2 c4
    go_upto_region 8 with fail
    have k3 : ∀ W, Ext w4 W → W.cell? ⟨e, 3, none⟩ = some (.int .i64 c) := fun _ h => h.kept c3
    have k19 : ∀ W, Ext w4 W → W.cell? ⟨g, 19, none⟩ = some (.slice (some ⟨kb, 0, none⟩) p.regs.length capb) := fun _ h => h.kept g19
    have kb9 : ∀ W, Ext w4 W → W.cell? ⟨kb, c.toNat, none⟩ = some (.int .i64 (bo : Int)) := fun _ h => h.kept b19
    refine region_calm 12 (by kernel_rfl) (by kernel_rfl) ?_
    simp only [List.take_succ_cons, List.take_zero, List.drop_succ_cons, List.drop_zero]
    repeat (first | (refine calm_fresh ?_ ?_ (fun wc hE => ?_) ?_; (decide); rfl; (focus (go_simp; done)); go_simp) | (refine calm_value ?_ ?_ ?_; (decide); (first | rfl | (focus (go_simp; done))); apply Exists.intro; refine ⟨fun wc hE => ?_, ?_⟩; (go_simp; exact rfl); go_simp) | (refine calm_call ?_ ?_ ?_; (decide); (first | rfl | (focus (go_simp; done))); apply Exists.intro; refine ⟨fun wc hE => ?_, ?_⟩; (go_simp; (first | fail)); go_simp) | (refine calm_skip ?_ ?_ ?_; (decide); (focus (go_simp; done)); go_simp))
    refine calm_nil ?_
    intro w5 hx
    clear k3 k19 kb9
    have X := Lib.hid (X.out.trans hx)
    have P := Lib.hid (P.out.ext hx)
    have c1 := hx.kept c1
    clear hx c3 g19 b19
    go_wp2_with fail
    (with_reducible refine (see_c w5 P.out 2 ((bo : Int) + x) 1 hsn).mono ?_)
    rintro er w6 ⟨rfl, vS2, P2, T2, N2⟩
    have hne : ¬ (e = g ∨ vS.ownBlock = some e) := by
      rintro (h1 | h1)
      · omega
      · have := (H.out.sn.lt e h1).2
        omega
    have hel := block_lt c1
    simp only at hel
    have c1 : w6.cell? ⟨e, 1, none⟩ = some (.int .i64 a) := by rw [cell_turn T2 hel hne]; exact c1
    have HB := Lib.hid ((P.out.below T2))
    have hwq : w6.cell? ⟨kw, bo + x.toNat, none⟩ = some (.int .i64 (M.words.getD (bo + x.toNat) 0)) ∧ w6.frozen? ⟨kw, bo + x.toNat, none⟩ = false := by
      have h0 := P2.ws.cellAt (bo + x.toNat) (by simpa using Hql.out)
      have h1 := P2.ws.frozenAt (bo + x.toNat)
      refine ⟨?_, by simpa using h1⟩
      rw [h0]
      simp [Hql.out]
    obtain ⟨ra, fa⟩ := P2.reg Ha.out
    simp only at ra
    rw [Hq.out] at P2
    have P2 := Lib.hid P2
    have hgl := P2.out.box.lt
    have hkl := block_lt hwq.1
    simp only at hkl
    clear T2 N2 hne
    go_upto_region 10 with fail
    have k1 : ∀ W, Ext w6 W → W.cell? ⟨e, 1, none⟩ = some (.int .i64 a) := fun _ h => h.kept c1
    have ka : ∀ W, Ext w6 W → W.cell? ⟨g, 7 + a.toNat, none⟩ = some (.int .i64 (rg M.regs a)) := fun _ h => h.kept ra
    refine region_calm 9 (by kernel_rfl) (by kernel_rfl) ?_
    simp only [List.take_succ_cons, List.take_zero, List.drop_succ_cons, List.drop_zero]
    repeat (first | (refine calm_fresh ?_ ?_ (fun wc hE => ?_) ?_; (decide); rfl; (focus (go_simp; done)); go_simp) | (refine calm_value ?_ ?_ ?_; (decide); (first | rfl | (focus (go_simp; done))); apply Exists.intro; refine ⟨fun wc hE => ?_, ?_⟩; (go_simp; exact rfl); go_simp) | (refine calm_call ?_ ?_ ?_; (decide); (first | rfl | (focus (go_simp; done))); apply Exists.intro; refine ⟨fun wc hE => ?_, ?_⟩; (go_simp; (first | fail)); go_simp) | (refine calm_skip ?_ ?_ ?_; (decide); (focus (go_simp; done)); go_simp))
    refine calm_nil ?_
    intro w7 hx
    have hwq := kept2 hx hwq
    have P2 := Lib.hid (P2.out.ext hx)
    have HB := Lib.hid ((HB.out.trans (Below.mono hx (Nat.le_trans P.out.size (HB.out.size)))))
    clear k1 ka hx ra fa c1
    go_wp2
    refine HW.out _ (by trivial) ⟨vS2, ?_, ?_⟩
    · have := P2.out.word (x := bo + x.toNat) rfl (rg M.regs a)
      rw [HM.out]
      exact this
    · exact (Below.mono X.out H.out.size).trans (HB.out.setCell hkw _)
end Go.Proofs.Yteiknefajlocoaa
/- Walk of the program's step. -/
namespace Go.Proofs.Yteiknefajlocoaa
open Go.ChangeShapes Go.WideShapes Go.ChangeAt Go.RowKit
set_option linter.unusedVariables false
set_option linter.unusedSimpArgs false

theorem step_word {p : LProg} {i : LIns} {M : Mach} (hw : i.op = 3 ∨ i.op = 4 ∨ i.op = 5 ∨ i.op = 6) (hin : insideB p i (idxOf M.regs i) = true) :
    stepM p i M = { wordM p i { M with steps := M.steps + 1, seen := M.seen ++ [⟨1, M.at_, 0⟩] } with at_ := M.at_ + 1 } := by
  unfold wordM
  by_cases h : i.op = 4 ∨ i.op = 6
  · have hp : isPut i = true := by unfold isPut; rcases h with h | h <;> simp [h]
    have hk : putN i = 1 := by unfold putN; rw [hp]; rfl
    rw [step_put h hin]
    simp only [hp, if_true, hk]
  · have h2 : i.op = 3 ∨ i.op = 5 := by omega
    have hp : isPut i = false := by unfold isPut; rcases h2 with h | h <;> simp [h]
    have hk : putN i = 0 := by unfold putN; rw [hp]; rfl
    rw [step_take h2 hin]
    simp only [hp, Bool.false_eq_true, if_false, hk]
theorem MOk.same {p : LProg} {M M' : Mach} (h : MOk p M) (h1 : M'.regs = M.regs) (h2 : M'.words = M.words) : MOk p M' := ⟨by rw [h1]; exact h.len, by rw [h1]; exact h.r64, by rw [h2]; exact h.wlen, by rw [h2]; exact h.w64⟩
def StepPost (p : LProg) (i : LIns) (wB : World) (g : Nat) (vR vC vM vB vW : Value) (M : Mach) (e : Ending) (w' : World) : Prop :=
  e = .returned (.tuple #[]) ∧ ∃ vS', MSt w' wB.heap.size g vR vC vM vB vS' vW (basesOf p) (stepM p i M) ∧ Ext wB w'
set_option maxRecDepth 100000 in
set_option maxHeartbeats 8000000 in
theorem step_c (p : LProg) (i : LIns) {wB : World} {g : Nat} {vR vC vM vB vS vW : Value} {M : Mach} (hi : p.code[M.at_]? = some i) (hh : hardOk p = true) (hfi : i.fits) (hok : MOk p M) (hsn : M.seen.length ≤ 900000) (hst : M.steps ≤ 40000) (w : World) (hp : ProgAt wB (.agg #[vR, vC]) p) (hbx : Ext wB w) (h : MSt w wB.heap.size g vR vC vM vB vS vW (basesOf p) M) :
    Calls Try.prog 71 #[.pointer (some ⟨g, 0, none⟩)] w (StepPost p i wB g vR vC vM vB vW M) := by
  obtain ⟨hr, hl1, hl2, hall⟩ := hard_parts hh
  have hat : M.at_ < p.code.length := (List.getElem?_eq_some_iff.1 hi).1
  have hp0 := hp
  have hpi : p.code.getD M.at_ default = i := by simp [List.getD_eq_getElem?_getD, hi]
  have hiok : insOk p 10 i = true := by rw [← hpi]; exact hall _ (getD_mem hat)
  obtain ⟨v1, v2, hv, hR0, -⟩ := hp0
  simp only [Value.agg.injEq, Array.mk.injEq, List.cons.injEq, and_true] at hv
  obtain ⟨rfl, -⟩ := hv
  have HR : Hid (∀ W, Ext wB W → RegsAt W vR p.regs) := Lib.hid fun W hW => hR0.ext hW
  clear hR0
  obtain ⟨v1, v2, hv, hR, ⟨-, oc, capc, bc, oo, rfl, hc1, hc2, hrow⟩⟩ := hp.ext hbx
  simp only [Value.agg.injEq, Array.mk.injEq, List.cons.injEq, and_true] at hv
  obtain ⟨rfl, rfl⟩ := hv
  have hix := index_code (cap := capc) hrow.at_
  obtain ⟨e0, e1, e2, e3, e4⟩ := hrow.ins M.at_ hat
  rw [hpi] at e0 e1 e2 e3 e4
  obtain ⟨-, g1, -, -, -, -, -, -, g18, -⟩ := h.cells
  have hgl := h.box.lt
  have H := Lib.hid h
  have HB0 := Lib.hid hbx
  have Hr := Lib.hid hr
  have Hmok := Lib.hid hok
  have Hiok := Lib.hid hiok
  have Hfi := Lib.hid hfi
  have Hsn := Lib.hid hsn
  have HSP : Hid (∀ vS' w', MSt w' wB.heap.size g vR (.slice oc p.code.length capc) vM vB vS' vW (basesOf p) (stepM p i M) → Ext wB w' → StepPost p i wB g vR (.slice oc p.code.length capc) vM vB vW M (.returned (.tuple #[])) w') := Lib.hid fun vS' w' h1 h2 => ⟨rfl, vS', h1, h2⟩
  generalize StepPost p i wB g vR (.slice oc p.code.length capc) vM vB vW M = SP at *
  clear hrow hR hr hall hok hiok hfi hpi hi hh h hbx
  obtain ⟨op, a, b, c, n⟩ := i
  simp only at e0 e1 e2 e3 e4
  go_enter Try.func71, Try.ntmps71
  go_upto_region 0 with fail
  have k1 : ∀ W, Ext w W → W.cell? ⟨g, 1, none⟩ = some (.slice oc p.code.length capc) := fun _ h => h.kept g1.1
  have k18 : ∀ W, Ext w W → W.cell? ⟨g, 18, none⟩ = some (.int .i64 (M.at_ : Int)) := fun _ h => h.kept g18.1
  have m0 : ∀ W, Ext w W → W.cell? ⟨bc, oo + M.at_ * 5, none⟩ = some (.int .i64 op) := fun _ h => h.kept e0
  have m1 : ∀ W, Ext w W → W.cell? ⟨bc, oo + M.at_ * 5 + 1, none⟩ = some (.int .i64 a) := fun _ h => h.kept e1
  have m2 : ∀ W, Ext w W → W.cell? ⟨bc, oo + M.at_ * 5 + 2, none⟩ = some (.int .i64 b) := fun _ h => h.kept e2
  have m3 : ∀ W, Ext w W → W.cell? ⟨bc, oo + M.at_ * 5 + 3, none⟩ = some (.int .i64 c) := fun _ h => h.kept e3
  have m4 : ∀ W, Ext w W → W.cell? ⟨bc, oo + M.at_ * 5 + 4, none⟩ = some (.int .i64 n) := fun _ h => h.kept e4
  refine region_fresh 13 12 (some 2) (by decide) rfl (by kernel_rfl) (by kernel_rfl) (fun k => .pointer (some ⟨k, 0, none⟩)) 70 #[.int .i64 0, .int .i64 0, .int .i64 0, .int .i64 0, .int .i64 0] ?_
  simp only [List.take_succ_cons, List.take_zero, List.drop_succ_cons, List.drop_zero]
  repeat (first | (refine calm_fresh ?_ ?_ (fun wc hE => ?_) ?_; (decide); rfl; (focus (go_simp; done)); go_simp) | (refine calm_value ?_ ?_ ?_; (decide); (first | rfl | (focus (go_simp; done))); apply Exists.intro; refine ⟨fun wc hE => ?_, ?_⟩; (go_simp; exact rfl); go_simp) | (refine calm_call ?_ ?_ ?_; (decide); (first | rfl | (focus (go_simp; done))); apply Exists.intro; refine ⟨fun wc hE => ?_, ?_⟩; (go_simp; (first | fail)); go_simp) | (refine calm_skip ?_ ?_ ?_; (decide); (focus (go_simp; done)); go_simp))
  refine calm_nil ?_
  intro k wx hk hB hx
  clear k1 k18 m0 m1 m2 m3 m4 e0 e1 e2 e3 e4 g1 g18
  refine store_all hB #[.int .i64 op, .int .i64 a, .int .i64 b, .int .i64 c, .int .i64 n] rfl rfl rfl (by kernel_rfl) (by simp [Value.oneCell']) ?_
  have bI := hB.stored #[.int .i64 op, .int .i64 a, .int .i64 b, .int .i64 c, .int .i64 n] rfl
  have hx2 := hx.setCells (#[.int .i64 op, .int .i64 a, .int .i64 b, .int .i64 c, .int .i64 n] : Array Value).toList hk 0
  generalize wx.setCells k 0 (#[.int .i64 op, .int .i64 a, .int .i64 b, .int .i64 c, .int .i64 n] : Array Value).toList = w1 at *
  have X := Lib.hid hx2
  have P := Lib.hid (H.out.ext hx2)
  have hks : some k ≠ vS.ownBlock := by
    intro e
    have := (H.out.sn.lt k e.symm).2
    omega
  have hkg : k ≠ g := by omega
  have Hks := Lib.hid hks
  obtain ⟨-, -, -, -, g4, -, -, -, g18, -⟩ := P.out.cells
  have hgl := P.out.box.lt
  have hkl := bI.lt
  clear hx hx2 hB hk hks
  go_wp2_with fail
  have P2 := P.out.steps_ (M.steps + 1)
  rw [show ((M.steps + 1 : Nat) : Int) = (M.steps : Int) + 1 by omega] at P2
  have bI := bI.far (p := ⟨g, 4, none⟩) hkg (.int .i64 ((M.steps : Int) + 1))
  have HB2 : Hid (Ext wB (w1.setCell ⟨g, 4, none⟩ (.int .i64 ((M.steps : Int) + 1)))) := Lib.hid ((HB0.out.trans X.out).setCell H.out.hg _)
  generalize w1.setCell ⟨g, 4, none⟩ (.int .i64 ((M.steps : Int) + 1)) = w2 at *
  (with_reducible refine (see_c w2 P2 1 M.at_ 0 (by simpa using Nat.le_trans Hsn.out (by omega))).mono ?_)
  rintro e w3 ⟨rfl, vS2, P3, T3, N3⟩
  have bI := bI.turn T3 (by
    rintro (h1 | h1)
    · exact hkg h1
    · exact Hks.out h1.symm)
  have HB : Hid (Ext wB w3) := Lib.hid (Below.trans HB2.out (P2.below T3))
  have i0 : w3.cell? ⟨k, 0, none⟩ = some (.int .i64 op) := by rw [bI.cell]; rfl
  have i1 : w3.cell? ⟨k, 1, none⟩ = some (.int .i64 a) := by rw [bI.cell]; rfl
  have i2 : w3.cell? ⟨k, 2, none⟩ = some (.int .i64 b) := by rw [bI.cell]; rfl
  have i3 : w3.cell? ⟨k, 3, none⟩ = some (.int .i64 c) := by rw [bI.cell]; rfl
  have i4 : w3.cell? ⟨k, 4, none⟩ = some (.int .i64 n) := by rw [bI.cell]; rfl
  obtain ⟨-, -, g2, g3, -, -, -, -, g18, -⟩ := P3.cells
  have hgl := P3.box.lt
  have hkl := bI.lt
  simp only at g2 g3 g18
  have Hreg : Hid (∀ a, okIn 10 a = true → w3.cell? ⟨g, 7 + a.toNat, none⟩ = some (.int .i64 (rg M.regs a)) ∧ w3.frozen? ⟨g, 7 + a.toNat, none⟩ = false) := Lib.hid fun a ha => P3.reg ha
  have PP := Lib.hid P3
  clear P3 T3 N3 P2 HB2 P bI g4
  by_cases h7 : op = 7
  · subst h7
    have hn := (ins_regs Hiok.out).2.2.2.2.2.2.2.2.2.1 (.inl rfl)
    simp only at hn
    have Hn : Hid (n = ((n.toNat : Nat) : Int)) := Lib.hid (by omega)
    have Hs : Hid (stepM p ⟨7, a, b, c, n⟩ M = { M with at_ := n.toNat, steps := M.steps + 1, seen := M.seen ++ [⟨1, M.at_, 0⟩] }) := Lib.hid rfl
    clear hn
    go_wp2
    try refine bodyPost_end (results_none rfl _ _ _) rfl ?_
    refine HSP.out vS2 _ ?_ (HB.out.setCell PP.out.hg _)
    have := PP.out.at__ n.toNat
    rw [← Hn.out] at this
    rw [Hs.out]
    exact this
  by_cases h8 : op = 8
  · subst h8
    have hn := (ins_regs Hiok.out).2.2.2.2.2.2.2.2.2.1 (.inr rfl)
    obtain ⟨ha, hb, -, -⟩ := (ins_regs Hiok.out).2.2.2.2.2.1 rfl
    simp only at hn ha hb
    have Hn : Hid (n = ((n.toNat : Nat) : Int)) := Lib.hid (by omega)
    obtain ⟨a0, a1⟩ := okIn_iff.1 ha
    obtain ⟨b0, b1⟩ := okIn_iff.1 hb
    obtain ⟨ra, -⟩ := Hreg.out a ha
    obtain ⟨rb, -⟩ := Hreg.out b hb
    have k1 : ∀ W, Ext w3 W → W.cell? ⟨k, 1, none⟩ = some (.int .i64 a) := fun _ h => h.kept i1
    have k2 : ∀ W, Ext w3 W → W.cell? ⟨k, 2, none⟩ = some (.int .i64 b) := fun _ h => h.kept i2
    have k3 : ∀ W, Ext w3 W → W.cell? ⟨k, 3, none⟩ = some (.int .i64 c) := fun _ h => h.kept i3
    have ma : ∀ W, Ext w3 W → W.cell? ⟨g, 7 + a.toNat, none⟩ = some (.int .i64 (rg M.regs a)) := fun _ h => h.kept ra
    have mb : ∀ W, Ext w3 W → W.cell? ⟨g, 7 + b.toNat, none⟩ = some (.int .i64 (rg M.regs b)) := fun _ h => h.kept rb
    have hixr := index_arr
    clear hn i1 i2 i3 ra rb g2 g3
    cases hh : nholds c (rg M.regs a) (rg M.regs b)
    · have Hs : Hid (stepM p ⟨8, a, b, c, n⟩ M = { M with at_ := M.at_ + 1, steps := M.steps + 1, seen := M.seen ++ [⟨1, M.at_, 0⟩] }) := Lib.hid (by
        unfold stepM
        simp only
        rw [if_neg (by omega), if_pos trivial, if_neg (by rw [hh]; simp)])
      have C8 : ∀ W, Calls Try.prog 106 #[.int .i64 c, .int .i64 (rg M.regs a), .int .i64 (rg M.regs b)] W fun e w' => e = .returned (.bool false) ∧ Ext W w' := fun W => by
        have := numHolds_c c (rg M.regs a) (rg M.regs b) W
        rw [hh] at this
        exact this
      have C8 := Lib.hid C8
      clear hh
      go_upto_region 8 with fail
      refine region_calm 19 (by kernel_rfl) (by kernel_rfl) ?_
      simp only [List.take_succ_cons, List.take_zero, List.drop_succ_cons, List.drop_zero]
      repeat (first | (refine calm_fresh ?_ ?_ (fun wc hE => ?_) ?_; (decide); rfl; (focus (go_simp; done)); go_simp) | (refine calm_value ?_ ?_ ?_; (decide); (first | rfl | (focus (go_simp; done))); apply Exists.intro; refine ⟨fun wc hE => ?_, ?_⟩; (go_simp; exact rfl); go_simp) | (refine calm_call ?_ ?_ ?_; (decide); (first | rfl | (focus (go_simp; done))); apply Exists.intro; refine ⟨fun wc hE => ?_, ?_⟩; (go_simp; (first | (with_reducible exact calm_enter (C8.out _)))); go_simp) | (refine calm_skip ?_ ?_ ?_; (decide); (focus (go_simp; done)); go_simp))
      refine calm_nil ?_
      intro wx hx
      have i4 := hx.kept i4
      have g18 := kept2 hx g18
      have HB := Lib.hid (HB.out.trans hx)
      have PP := Lib.hid (PP.out.ext hx)
      clear hx k1 k2 k3 ma mb
      go_wp2
      try refine bodyPost_end (results_none rfl _ _ _) rfl ?_
      refine HSP.out vS2 _ ?_ (HB.out.setCell PP.out.hg _)
      have := PP.out.at__ (M.at_ + 1)
      rw [show ((M.at_ + 1 : Nat) : Int) = (M.at_ : Int) + 1 by omega] at this
      rw [Hs.out]
      exact this
    · have Hs : Hid (stepM p ⟨8, a, b, c, n⟩ M = { M with at_ := n.toNat, steps := M.steps + 1, seen := M.seen ++ [⟨1, M.at_, 0⟩] }) := Lib.hid (by
        unfold stepM
        simp only
        rw [if_neg (by omega), if_pos trivial, if_pos hh])
      have C8 : ∀ W, Calls Try.prog 106 #[.int .i64 c, .int .i64 (rg M.regs a), .int .i64 (rg M.regs b)] W fun e w' => e = .returned (.bool true) ∧ Ext W w' := fun W => by
        have := numHolds_c c (rg M.regs a) (rg M.regs b) W
        rw [hh] at this
        exact this
      have C8 := Lib.hid C8
      clear hh
      go_upto_region 8 with fail
      refine region_calm 19 (by kernel_rfl) (by kernel_rfl) ?_
      simp only [List.take_succ_cons, List.take_zero, List.drop_succ_cons, List.drop_zero]
      repeat (first | (refine calm_fresh ?_ ?_ (fun wc hE => ?_) ?_; (decide); rfl; (focus (go_simp; done)); go_simp) | (refine calm_value ?_ ?_ ?_; (decide); (first | rfl | (focus (go_simp; done))); apply Exists.intro; refine ⟨fun wc hE => ?_, ?_⟩; (go_simp; exact rfl); go_simp) | (refine calm_call ?_ ?_ ?_; (decide); (first | rfl | (focus (go_simp; done))); apply Exists.intro; refine ⟨fun wc hE => ?_, ?_⟩; (go_simp; (first | (with_reducible exact calm_enter (C8.out _)))); go_simp) | (refine calm_skip ?_ ?_ ?_; (decide); (focus (go_simp; done)); go_simp))
      refine calm_nil ?_
      intro wx hx
      have i4 := hx.kept i4
      have g18 := kept2 hx g18
      have HB := Lib.hid (HB.out.trans hx)
      have PP := Lib.hid (PP.out.ext hx)
      clear hx k1 k2 k3 ma mb
      go_wp2
      try refine bodyPost_end (results_none rfl _ _ _) rfl ?_
      refine HSP.out vS2 _ ?_ (HB.out.setCell PP.out.hg _)
      have := PP.out.at__ (n.toNat)
      rw [← Hn.out] at this
      rw [Hs.out]
      exact this
  by_cases h9 : op = 9
  · subst h9
    have ha := (ins_regs Hiok.out).2.2.2.2.2.2.1 rfl
    simp only at ha
    obtain ⟨a0, a1⟩ := okIn_iff.1 ha
    obtain ⟨ra, -⟩ := Hreg.out a ha
    have hixr := index_arr
    have Hs : Hid (stepM p ⟨9, a, b, c, n⟩ M = { M with at_ := M.at_ + 1, steps := M.steps + 1, seen := M.seen ++ [⟨1, M.at_, 0⟩], fin := 1, value := rg M.regs a }) := Lib.hid rfl
    clear i2 i3 i4
    go_upto_region 11 with fail
    go_region
    go_wp2
    try refine bodyPost_end (results_none rfl _ _ _) rfl ?_
    refine HSP.out vS2 _ ?_ (Ext.drew (((HB.out.setCell PP.out.hg _).setCell PP.out.hg _).setCell PP.out.hg _))
    have := (((PP.out.fin_ 1).value_ (rg M.regs a)).at__ (M.at_ + 1)).ext (Ext.drew (Ext.refl _))
    rw [show ((M.at_ + 1 : Nat) : Int) = (M.at_ : Int) + 1 by omega] at this
    rw [Hs.out]
    exact this
  by_cases hw : op = 4 ∨ op = 6
  · have Hw : Hid (op = 3 ∨ op = 4 ∨ op = 5 ∨ op = 6) := Lib.hid (by omega)
    have hb7 : (op == (7 : Int)) = false := by simp; omega
    have hb8 : (op == (8 : Int)) = false := by simp; omega
    have hb9 : (op == (9 : Int)) = false := by simp; omega
    have CP := puts_c ⟨op, a, b, c, n⟩ w3
    rw [show isPut ⟨op, a, b, c, n⟩ = true by unfold isPut; simp only; rcases hw with h | h <;> simp [h]] at CP
    simp only [insV] at CP
    go_wp2_with fail
    (with_reducible refine CP.mono ?_)
    clear CP
    rintro e w4 ⟨rfl, hx⟩
    clear g2 g3 Hreg
    have HB := Lib.hid (HB.out.trans hx)
    have PP := Lib.hid (PP.out.ext hx)
    have i0 := hx.kept i0
    have i1 := hx.kept i1
    have i2 := hx.kept i2
    have i3 := hx.kept i3
    have i4 := hx.kept i4
    have g18 := kept2 hx g18
    clear hx
    go_wp2_with fail
    have CW := word_c p ⟨op, a, b, c, n⟩ Hw.out Hiok.out Hr.out (Hmok.out.same (M' := { M with steps := M.steps + 1, seen := M.seen ++ [⟨1, M.at_, 0⟩] }) rfl rfl) (by simp; omega) w4 (HR.out _ HB.out) PP.out
    unfold WordPost at CW
    simp only [insV] at CW
    (with_reducible refine CW.mono ?_)
    clear CW
    rintro e w6 hpost
    cases hin : insideB p ⟨op, a, b, c, n⟩ (idxOf M.regs ⟨op, a, b, c, n⟩)
    · have hpost : e = .returned (.bool false) ∧ Ext w4 w6 := by
        rcases hpost with ⟨h1, -⟩ | ⟨-, h2⟩
        · try simp only at h1
          rw [hin] at h1; cases h1
        · exact h2
      obtain ⟨rfl, hx⟩ := hpost
      have Hs := Lib.hid (step_fault (M := M) Hw.out hin)
      have HB := Lib.hid (HB.out.trans hx)
      have PP := Lib.hid (PP.out.ext hx)
      obtain ⟨-, -, g2, -, -, -, -, -, g18, -⟩ := PP.out.cells
      have hgl := PP.out.box.lt
      simp only at g2 g18
      clear hx hin
      go_wp2
      try refine bodyPost_end (results_none rfl _ _ _) rfl ?_
      refine HSP.out vS2 _ ?_ ((HB.out.setCell PP.out.hg _).setCell PP.out.hg _)
      have := (PP.out.fin_ 2).at__ (M.at_ + 1)
      rw [show ((M.at_ + 1 : Nat) : Int) = (M.at_ : Int) + 1 by omega] at this
      rw [Hs.out]
      exact this
    · have hpost : e = .returned (.bool true) ∧ ∃ vS', MSt w6 wB.heap.size g vR (.slice oc p.code.length capc) vM vB vS' vW (basesOf p) (wordM p ⟨op, a, b, c, n⟩ { M with steps := M.steps + 1, seen := M.seen ++ [⟨1, M.at_, 0⟩] }) ∧ Below wB.heap.size w4 w6 := by
        rcases hpost with ⟨-, h2⟩ | ⟨h1, -⟩
        · exact h2
        · try simp only at h1
          rw [hin] at h1; cases h1
      obtain ⟨rfl, vS3, P5, hbb⟩ := hpost
      have Hs := Lib.hid (step_word (M := M) Hw.out hin)
      have HB : Hid (Ext wB w6) := Lib.hid (Below.trans HB.out hbb)
      have PP := Lib.hid P5
      obtain ⟨-, -, g2, -, -, -, -, -, g18, -⟩ := P5.cells
      have hgl := P5.box.lt
      clear P5 hbb hin
      generalize wordM p ⟨op, a, b, c, n⟩ { M with steps := M.steps + 1, seen := M.seen ++ [⟨1, M.at_, 0⟩] } = MW at *
      go_wp2
      try refine bodyPost_end (results_none rfl _ _ _) rfl ?_
      refine HSP.out vS3 _ ?_ (HB.out.setCell PP.out.hg _)
      have := PP.out.at__ (M.at_ + 1)
      rw [show ((M.at_ + 1 : Nat) : Int) = (M.at_ : Int) + 1 by omega] at this
      rw [Hs.out]
      exact this
  by_cases hw : op = 3 ∨ op = 5
  · have Hw : Hid (op = 3 ∨ op = 4 ∨ op = 5 ∨ op = 6) := Lib.hid (by omega)
    have hb7 : (op == (7 : Int)) = false := by simp; omega
    have hb8 : (op == (8 : Int)) = false := by simp; omega
    have hb9 : (op == (9 : Int)) = false := by simp; omega
    have CP := puts_c ⟨op, a, b, c, n⟩ w3
    rw [show isPut ⟨op, a, b, c, n⟩ = false by unfold isPut; simp only; simp; omega] at CP
    simp only [insV] at CP
    go_wp2_with fail
    (with_reducible refine CP.mono ?_)
    clear CP
    rintro e w4 ⟨rfl, hx⟩
    clear g2 g3 Hreg
    have HB := Lib.hid (HB.out.trans hx)
    have PP := Lib.hid (PP.out.ext hx)
    have i0 := hx.kept i0
    have i1 := hx.kept i1
    have i2 := hx.kept i2
    have i3 := hx.kept i3
    have i4 := hx.kept i4
    have g18 := kept2 hx g18
    clear hx
    go_wp2_with fail
    have CT := takes_c ⟨op, a, b, c, n⟩ w4
    rw [show isTake ⟨op, a, b, c, n⟩ = true by unfold isTake; simp only; rcases hw with h | h <;> simp [h]] at CT
    simp only [insV] at CT
    (with_reducible refine CT.mono ?_)
    clear CT
    rintro e w5 ⟨rfl, hx⟩
    have HB := Lib.hid (HB.out.trans hx)
    have PP := Lib.hid (PP.out.ext hx)
    have i0 := hx.kept i0
    have i1 := hx.kept i1
    have i2 := hx.kept i2
    have i3 := hx.kept i3
    have i4 := hx.kept i4
    have g18 := kept2 hx g18
    clear hx
    go_wp2_with fail
    have CW := word_c p ⟨op, a, b, c, n⟩ Hw.out Hiok.out Hr.out (Hmok.out.same (M' := { M with steps := M.steps + 1, seen := M.seen ++ [⟨1, M.at_, 0⟩] }) rfl rfl) (by simp; omega) w5 (HR.out _ HB.out) PP.out
    unfold WordPost at CW
    simp only [insV] at CW
    (with_reducible refine CW.mono ?_)
    clear CW
    rintro e w6 hpost
    cases hin : insideB p ⟨op, a, b, c, n⟩ (idxOf M.regs ⟨op, a, b, c, n⟩)
    · have hpost : e = .returned (.bool false) ∧ Ext w5 w6 := by
        rcases hpost with ⟨h1, -⟩ | ⟨-, h2⟩
        · try simp only at h1
          rw [hin] at h1; cases h1
        · exact h2
      obtain ⟨rfl, hx⟩ := hpost
      have Hs := Lib.hid (step_fault (M := M) Hw.out hin)
      have HB := Lib.hid (HB.out.trans hx)
      have PP := Lib.hid (PP.out.ext hx)
      obtain ⟨-, -, g2, -, -, -, -, -, g18, -⟩ := PP.out.cells
      have hgl := PP.out.box.lt
      simp only at g2 g18
      clear hx hin
      go_wp2
      try refine bodyPost_end (results_none rfl _ _ _) rfl ?_
      refine HSP.out vS2 _ ?_ ((HB.out.setCell PP.out.hg _).setCell PP.out.hg _)
      have := (PP.out.fin_ 2).at__ (M.at_ + 1)
      rw [show ((M.at_ + 1 : Nat) : Int) = (M.at_ : Int) + 1 by omega] at this
      rw [Hs.out]
      exact this
    · have hpost : e = .returned (.bool true) ∧ ∃ vS', MSt w6 wB.heap.size g vR (.slice oc p.code.length capc) vM vB vS' vW (basesOf p) (wordM p ⟨op, a, b, c, n⟩ { M with steps := M.steps + 1, seen := M.seen ++ [⟨1, M.at_, 0⟩] }) ∧ Below wB.heap.size w5 w6 := by
        rcases hpost with ⟨-, h2⟩ | ⟨h1, -⟩
        · exact h2
        · try simp only at h1
          rw [hin] at h1; cases h1
      obtain ⟨rfl, vS3, P5, hbb⟩ := hpost
      have Hs := Lib.hid (step_word (M := M) Hw.out hin)
      have HB : Hid (Ext wB w6) := Lib.hid (Below.trans HB.out hbb)
      have PP := Lib.hid P5
      obtain ⟨-, -, g2, -, -, -, -, -, g18, -⟩ := P5.cells
      have hgl := P5.box.lt
      clear P5 hbb hin
      generalize wordM p ⟨op, a, b, c, n⟩ { M with steps := M.steps + 1, seen := M.seen ++ [⟨1, M.at_, 0⟩] } = MW at *
      go_wp2
      try refine bodyPost_end (results_none rfl _ _ _) rfl ?_
      refine HSP.out vS3 _ ?_ (HB.out.setCell PP.out.hg _)
      have := PP.out.at__ (M.at_ + 1)
      rw [show ((M.at_ + 1 : Nat) : Int) = (M.at_ : Int) + 1 by omega] at this
      rw [Hs.out]
      exact this
  have hplain : op ≠ 3 ∧ op ≠ 4 ∧ op ≠ 5 ∧ op ≠ 6 ∧ op ≠ 7 ∧ op ≠ 8 ∧ op ≠ 9 := ⟨by omega, by omega, by omega, by omega, h7, h8, h9⟩
  have hb7 : (op == (7 : Int)) = false := by simp; omega
  have hb8 : (op == (8 : Int)) = false := by simp; omega
  have hb9 : (op == (9 : Int)) = false := by simp; omega
  have Hs := Lib.hid (step_plain (p := p) (M := M) (i := ⟨op, a, b, c, n⟩) hplain)
  have Hpl := Lib.hid hplain
  have CP := puts_c ⟨op, a, b, c, n⟩ w3
  rw [show isPut ⟨op, a, b, c, n⟩ = false by unfold isPut; simp only; simp; omega] at CP
  simp only [insV] at CP
  clear hplain
  go_wp2_with fail
  (with_reducible refine CP.mono ?_)
  clear CP
  rintro e w4 ⟨rfl, hx⟩
  clear g2 g3 Hreg
  have HB := Lib.hid (HB.out.trans hx)
  have PP := Lib.hid (PP.out.ext hx)
  have i0 := hx.kept i0
  have i1 := hx.kept i1
  have i2 := hx.kept i2
  have i3 := hx.kept i3
  have i4 := hx.kept i4
  have g18 := kept2 hx g18
  clear hx
  go_wp2_with fail
  have CT := takes_c ⟨op, a, b, c, n⟩ w4
  rw [show isTake ⟨op, a, b, c, n⟩ = false by unfold isTake; simp only; simp; omega] at CT
  simp only [insV] at CT
  (with_reducible refine CT.mono ?_)
  clear CT
  rintro e w5 ⟨rfl, hx⟩
  have HB := Lib.hid (HB.out.trans hx)
  have PP := Lib.hid (PP.out.ext hx)
  have i0 := hx.kept i0
  have i1 := hx.kept i1
  have i2 := hx.kept i2
  have i3 := hx.kept i3
  have i4 := hx.kept i4
  have g18 := kept2 hx g18
  clear hx
  go_wp2_with fail
  have CQ := plain_c (M := { M with steps := M.steps + 1, seen := M.seen ++ [⟨1, M.at_, 0⟩] }) p ⟨op, a, b, c, n⟩ Hmok.out.r64 Hiok.out Hpl.out (by simp; omega) w5 PP.out
  unfold PlainPost at CQ
  simp only [insV] at CQ
  (with_reducible refine CQ.mono ?_)
  clear CQ
  rintro e w6 ⟨rfl, vS3, P5, T5, -⟩
  have HB : Hid (Ext wB w6) := Lib.hid (Below.trans HB.out (PP.out.below T5))
  have PP := Lib.hid P5
  obtain ⟨-, -, -, -, -, -, -, -, g18, -⟩ := P5.cells
  have hgl := P5.box.lt
  simp only at g18
  clear P5 T5
  go_wp2
  try refine bodyPost_end (results_none rfl _ _ _) rfl ?_
  refine HSP.out vS3 _ ?_ (HB.out.setCell PP.out.hg _)
  have := PP.out.at__ (M.at_ + 1)
  rw [show ((M.at_ + 1 : Nat) : Int) = (M.at_ : Int) + 1 by omega] at this
  rw [Hs.out]
  exact this
end Go.Proofs.Yteiknefajlocoaa
/- Walks of slices.Clone, and of the program's Begin. -/
namespace Go.Proofs.Yteiknefajlocoaa
open Go.ChangeShapes Go.WideShapes Go.ChangeAt Go.RowKit
set_option linter.unusedVariables false
set_option linter.unusedSimpArgs false

theorem sl_nil (ad : Addr) (n cap : Nat) (w : World) : (binOp .eql 71 (.slice (some ad) n cap) (.slice none 0 0)).run Try.prog w = .ok (.bool false) w := by
  first | (kernel_rfl; done) | (go_simp; done)
theorem nil_nil (w : World) : (binOp .eql 71 (.slice none 0 0) (.slice none 0 0)).run Try.prog w = .ok (.bool true) w := by
  first | (kernel_rfl; done) | (go_simp; done)
theorem infoInt : (Try.prog.info? 3).map (fun i => (i.zero, i.size, i.bytes)) = some (some (.int .i64 0), 1, 8) := by kernel_rfl
set_option maxRecDepth 100000 in
theorem clone_c {w : World} {ad : Addr} {n cap : Nat} {news : List Value} (hs : Src w 1 (some ad) n news) (hn : n ≤ 1000000) :
    Calls Try.prog 111 #[.slice (some ad) n cap] w fun e w' => ∃ v', e = .returned v' ∧ w'.ownsRow w.heap.size 2 1 v' n news ∧ Ext w w' := by
  obtain ⟨i0, hi0, hz0, hz1, hz2⟩ := info_parts infoI64
  have Hs := Lib.hid hs
  have hnil := sl_nil ad n cap
  clear hs
  go_enter Try.func111, Try.ntmps111
  go_wp2_with (at_builtin; refine wpList_append_src _ rfl _ _ 71 rfl w.heap.size 2 i0 _ 1 8 Try.underlying71 hi0 hz0 hz1 hz2 rfl (by decide) _ 0 [] rfl ?c0 (some ad) n cap news rfl ?c1 ?c3 ?c4 ?c5 ?_)
  case c0 =>
    have h := World.ownsRow_lit (base := w.heap.size) (e := 2) (size := 1) w #[] 0 (Nat.le_refl _) (by decide) rfl
    simpa [Act.eval] using h
  case c1 => exact Hs.out.ext ((Ext.refl _).alloc _)
  case c3 => unfold maxLen; omega
  case c4 => omega
  case c5 => simp
  intro v1 w1 hown hgrow hat
  have X : Ext w w1 := ((Ext.refl w).alloc _).grown hgrow (by
    intro k hk
    simp [Act.eval, Value.ownBlock] at hk
    omega)
  have Hown := Lib.hid hown
  have X := Lib.hid X
  clear hown hgrow hat
  go_wp2
  go_ret
  exact ⟨_, rfl, by simpa using Hown.out, X.out⟩
set_option maxRecDepth 100000 in
theorem clone_nil (w : World) (cap : Nat) :
    Calls Try.prog 111 #[.slice none 0 0] w fun e w' => e = .returned (.slice none 0 0) ∧ w = w' := by
  have hnil := nil_nil
  go_enter Try.func111, Try.ntmps111
  go_wp2
  go_ret
  exact ⟨rfl, rfl⟩

section
variable {w w' : World} {B g : Nat} {vR vC vM vB vS vW : Value} {bases : List Int} {M : Mach}
/-- a base more -/
theorem MSt.bases_ (h : MSt w B g vR vC vM vB vS vW bases M) {vB' : Value} {bs : List Int} (hg : w.grownBy w' vB.ownBlock) (ho : w'.ownsRow B 3 1 vB' bs.length (bs.map (Value.int .i64))) :
    MSt (w'.setCell ⟨g, 19, none⟩ vB') B g vR vC vM vB' vS vW bs M := by
  have hb := h.box.grown hg h.gb
  have hne : some g ≠ vB'.ownBlock := own_ne ho hb (by decide)
  have hw := own_grown h.ws hg (fun k hk he => own_ne2 h.bs h.ws (by decide) k hk he)
  have hs := own_grown h.sn hg (fun k hk he => own_ne2 h.bs h.sn (by decide) k hk he)
  exact ⟨by rw [← mach_set_bases h.len (u := vB')]; exact hb.set_ 19 vB', own_far hs h.gs _, own_far hw h.gw _, own_far ho hne _, h.len, h.hg⟩
/-- words more -/
theorem MSt.words_ (h : MSt w B g vR vC vM vB vS vW bases M) {vW' : Value} {ws : List Int} (hg : w.grownBy w' vW.ownBlock) (ho : w'.ownsRow B 2 1 vW' ws.length (ws.map (Value.int .i64))) :
    MSt (w'.setCell ⟨g, 17, none⟩ vW') B g vR vC vM vB vS vW' bases { M with words := ws } := by
  have hb := h.box.grown hg h.gw
  have hne : some g ≠ vW'.ownBlock := own_ne ho hb (by decide)
  have hbs := own_grown h.bs hg (fun k hk he => own_ne2 h.ws h.bs (by decide) k hk he)
  have hs := own_grown h.sn hg (fun k hk he => own_ne2 h.ws h.sn (by decide) k hk he)
  exact ⟨by rw [← mach_set_words h.len (u := vW')]; exact hb.set_ 17 vW', own_far hs h.gs _, own_far ho hne _, own_far hbs h.gb _, h.len, h.hg⟩
end
def BeginPost (p : LProg) (m : List (List Int)) (vR vC : Value) (w : World) (e : Ending) (w' : World) : Prop :=
  ∃ g vB vW, e = .returned (.pointer (some ⟨g, 0, none⟩)) ∧ MSt w' w.heap.size g vR vC (.slice none 0 0) vB (.slice none 0 0) vW (basesOf p) (start m.flatten) ∧ Ext w w'
def bsTo (p : LProg) (j : Nat) : List Int := (List.range j).map fun k => (baseOf p k : Int)
set_option maxRecDepth 100000 in
set_option maxHeartbeats 4000000 in
theorem begin_c (p : LProg) (m : List (List Int)) (vR vC vm : Value) (w : World) (hm : MemAt w vm m) (hf : fitsOk p m = true) (hr : regsOk p.regs = true) :
    Calls Try.prog 70 #[.agg #[vR, vC], vm] w (BeginPost p m vR vC w) := by
  obtain ⟨hl1, hl2⟩ := fits_len hf
  have hlen := regsOk_len hr
  have htt := total_le hr
  have Hft := Lib.hid (flat_take hf)
  obtain ⟨oa, cap, b, o, rfl, hc1, hc2, vs0, hrow, hin⟩ := hm
  have hix := index_mem' (cap := cap) hrow.at_
  have Hrow := Lib.hid hrow
  have Hin := Lib.hid hin
  have Hl2 := Lib.hid hl2
  have Hr := Lib.hid hr
  have Hl1 := Lib.hid hl1
  have hm6 : m.length ≤ 6 := by omega
  obtain ⟨i0, hi0, hz0, hz1, hz2⟩ := info_parts infoI64
  obtain ⟨j0, hj0, hy0, hy1, hy2⟩ := info_parts infoInt
  clear hrow hin hc1 hc2 hl2 hr hl1 hlen
  go_enter Try.func70, Try.ntmps70
  go_wp2_with fail
  obtain ⟨W, gp, hg, hW, hx, bP, bM⟩ := blocks2 w #[vR, vC] #[vR, vC, .int .i64 0, .int .i64 0, .int .i64 0, .slice none 0 0, .slice none 0 0, .int .i64 0, .int .i64 0, .int .i64 0, .int .i64 0, .int .i64 0, .int .i64 0, .int .i64 0, .int .i64 0, .int .i64 0, .int .i64 0, .slice none 0 0, .int .i64 0, .slice none 0 0] 25 110
  rw [hW, hg]
  have X := Lib.hid hx
  have P0 : MSt W w.heap.size (gp + 1) vR vC (.slice none 0 0) (.slice none 0 0) (.slice none 0 0) (.slice none 0 0) (bsTo p 0) { start [] with words := (m.take 0).flatten } :=
    ⟨bM, World.ownsRow_nil _ _ _ _, World.ownsRow_nil _ _ _ _, World.ownsRow_nil _ _ _ _, rfl, by omega⟩
  clear hW hg hx bP bM
  generalize gp + 1 = g at *
  go_loopw [13] (fun i wr => ∃ (j : Nat) (vB vW : Value), j ≤ m.length ∧ i = .int .i64 j ∧ MSt wr w.heap.size g vR vC (.slice none 0 0) vB (.slice none 0 0) vW (bsTo p j) { start [] with words := (m.take j).flatten } ∧ Ext w wr) (fun i _ => m.length - (intOf i).toNat)
  case atStart => exact ⟨0, _, _, by omega, rfl, P0, X.out⟩
  case round =>
    obtain ⟨j, vB, vW, hj, rfl, P, hE⟩ := hrel
    have X := Lib.hid hE
    have PP := Lib.hid P
    have hgl := P.box.lt
    have hwl : ((m.take j).flatten).length = baseOf p j := Hft.out j (by rw [← Hl1.out]; omega)
    have hbl := base_le p j
    clear hE P
    by_cases hlt : j < m.length
    · have e0 := (Hrow.out.ext X.out).one j hlt
      have h1 := Hin.out j hlt
      have hlj := Hl2.out j (by rw [← Hl1.out]; omega)
      have hw6 : wordsOf (p.regs.getD j default) ≤ 64 := words_le _ (regsOk_log Hr.out _ (getD_mem (by rw [← Hl1.out]; omega))).2
      have Hnext : Hid ((m.take (j + 1)).flatten = (m.take j).flatten ++ m.getD j default) := Lib.hid (by
        rw [List.take_succ_eq_append_getElem hlt, List.flatten_append]
        simp [hlt])
      have Hbs : Hid (bsTo p (j + 1) = bsTo p j ++ [(baseOf p j : Int)]) := Lib.hid (by simp [bsTo, List.range_succ])
      have hbsl : (bsTo p j).length = j := by simp [bsTo]
      generalize m.getD j default = l at *
      generalize vs0 j = vl at *
      obtain ⟨-, ol, lcap, lb, lo, rfl, hl3, hl4, hlr⟩ := h1
      have Hlr := Lib.hid hlr
      rw [hlj] at e0
      generalize wordsOf (p.regs.getD j default) = L at *
      obtain ⟨-, -, -, -, -, -, -, g17, -, g19⟩ := PP.out.cells
      obtain ⟨ob, obc, rfl⟩ := own_slice PP.out.bs
      obtain ⟨ow, owc, rfl⟩ := own_slice PP.out.ws
      have Hwl := Lib.hid hwl
      rw [hbsl] at g19
      simp only [hwl] at g17
      clear hlr hl3 hl4
      go_upto_region 5 with fail
      have k17 : ∀ W, Ext wr W → W.cell? ⟨g, 17, none⟩ = some (.slice ow (baseOf p j) owc) := fun _ h => h.kept g17.1
      have k19 : ∀ W, Ext wr W → W.cell? ⟨g, 19, none⟩ = some (.slice ob j obc) := fun _ h => h.kept g19.1
      refine region_float [11, 12, 13, 14, 15] 1 (by kernel_rfl) (by kernel_rfl) ?_
      repeat (first | (refine cw_heavy ?_ ?_; (decide)) | (refine cw_value ?_ ?_ ?_; (decide); (first | rfl | (focus (go_simp; done))); apply Exists.intro; refine ⟨fun wc hE => ?_, ?_⟩; (go_simp; exact rfl); go_simp) | (refine cw_skip ?_ ?_ ?_; (decide); (focus (go_simp; done)); go_simp))
      refine cw_nil ?_
      intro w2 hx
      have X2 := Lib.hid hx
      clear k17 k19
      refine wpF_soft rfl ?_
      go_wp2
      have PB := PP.out.ext (X2.out.alloc (.cells #[.int .i64 (baseOf p j : Int)] 3))
      have X3 := Lib.hid (X.out.trans (X2.out.alloc (.cells #[.int .i64 (baseOf p j : Int)] 3)))
      refine ⟨X2.out.alloc _, ?_⟩
      refine wpF_hard (heavies_cons rfl (heavies_cons rfl (heavies_cons rfl (heavies_cons rfl (heavies_nil))))) ?_
      have hbo := PB.bs
      rw [hbsl] at hbo
      refine wpList_append_src _ rfl _ _ 51 rfl w.heap.size 3 j0 _ 1 8 Try.underlying51 hj0 hy0 hy1 hy2 rfl (by decide) _ _ _ rfl hbo (some ⟨w2.heap.size, 0, none⟩) 1 1 [.int .i64 (baseOf p j : Int)] rfl ?c1 ?c3 ?c4 ?c5 ?_
      case c1 => exact src_new (size := 1) (Blk.new w2 3 #[.int .i64 (baseOf p j : Int)]) rfl (by simp [Value.oneCell'])
      case c3 => unfold maxLen; omega
      case c4 => omega
      case c5 => exact X3.out.size
      intro v1 w3 hown hgrow hat
      clear hat
      obtain ⟨o3, c3, rfl⟩ := own_slice hown
      have hgrow : (w2.alloc (.cells #[.int .i64 (baseOf p j : Int)] 3)).grownBy w3 (Value.slice ob (bsTo p j).length obc).ownBlock := by
        rw [hbsl]; exact hgrow
      have hb3 := PB.box.grown hgrow PB.gb
      have p19 : w3.cell? ⟨g, 19, none⟩ = some (.slice ob j obc) ∧ w3.frozen? ⟨g, 19, none⟩ = false := ⟨by rw [hb3.cell]; simp [machL, start, hbsl], hb3.frozen 19⟩
      have p17 : w3.cell? ⟨g, 17, none⟩ = some (.slice ow (baseOf p j) owc) ∧ w3.frozen? ⟨g, 17, none⟩ = false := ⟨by rw [hb3.cell]; simp [machL, start, Hwl.out], hb3.frozen 17⟩
      have P3 := PB.bases_ (bs := bsTo p j ++ [(baseOf p j : Int)]) (vB' := .slice o3 (j + 1) c3) hgrow (by simpa [hbsl] using hown)
      have X3 := Lib.hid (((X3.out.grown hgrow (own_base PB.bs))).setCell (p := ⟨g, 19, none⟩) PB.hg (.slice o3 (j + 1) c3))
      have hwo : (w3.setCell ⟨g, 19, none⟩ (.slice o3 (j + 1) c3)).ownsRow w.heap.size 2 1 (.slice ow (baseOf p j) owc) (baseOf p j) (((m.take j).flatten).map (Value.int .i64)) := by
        have := P3.ws
        simp only [Hwl.out] at this
        exact this
      have P3 := Lib.hid P3
      have Hsrc : Hid (Src (w3.setCell ⟨g, 19, none⟩ (.slice o3 (j + 1) c3)) 1 ol L (l.map (Value.int .i64))) := Lib.hid (by
        have := src_ints .i64 (Hlr.out.ext X3.out)
        rw [hlj] at this
        exact this)
      clear g17 g19 hb3 hown hgrow PB hbo
      have hg3 := P3.out.box.lt
      go_wp2_with (at_builtin; refine wpList_append_src _ rfl _ _ 71 rfl w.heap.size 2 i0 _ 1 8 Try.underlying71 hi0 hz0 hz1 hz2 rfl (by decide) _ _ _ rfl hwo ol L lcap (l.map (Value.int .i64)) rfl ?d1 ?d3 ?d4 ?d5 ?_)
      case d1 => exact Hsrc.out
      case d3 => unfold maxLen; omega
      case d4 => omega
      case d5 => exact X3.out.size
      intro v2 w4 hown2 hgrow2 hat2
      clear hat2
      obtain ⟨o4, c4, rfl⟩ := own_slice hown2
      have hgr : (w3.setCell ⟨g, 19, none⟩ (.slice o3 (j + 1) c3)).grownBy w4 (Value.slice ow ({ start [] with words := (m.take j).flatten } : Mach).words.length owc).ownBlock := by
        simp only [Hwl.out]; exact hgrow2
      have hb4 := P3.out.box.grown hgr P3.out.gw
      have q17 : w4.cell? ⟨g, 17, none⟩ = some (.slice ow (baseOf p j) owc) ∧ w4.frozen? ⟨g, 17, none⟩ = false := ⟨by rw [hb4.cell]; simp [machL, start, Hwl.out], hb4.frozen 17⟩
      have P4 := Lib.hid (P3.out.words_ (ws := (m.take j).flatten ++ l) (vW' := .slice o4 (baseOf p j + L) c4) hgr (by simpa [Hwl.out, hlj] using hown2))
      have X4 := Lib.hid ((X3.out.grown hgrow2 (own_base hwo)).setCell (p := ⟨g, 17, none⟩) P3.out.hg (.slice o4 (baseOf p j + L) c4))
      clear hb4 hgr hown2 hgrow2 hwo p17 p19
      go_wp2
      go_roundw
      case rel => exact ⟨j + 1, _, _, by omega, by go_num, by rw [Hbs.out, Hnext.out]; exact P4.out, X4.out⟩
      case measure => first | (simp [intOf]; done) | (simp [intOf]; omega)
    · have hje : j = m.length := by omega
      subst hje
      have hlt2 : decide ((m.length : Int) < (m.length : Int)) = false := by simp
      have HB : Hid (bsTo p m.length = basesOf p) := Lib.hid (by rw [Hl1.out]; rfl)
      have HF : Hid ((m.take m.length).flatten = m.flatten) := Lib.hid (by rw [List.take_length])
      go_wp2
      go_ret
      refine ⟨g, vB, vW, rfl, ?_, X.out⟩
      have := PP.out
      rw [HB.out, HF.out] at this
      exact this
end Go.Proofs.Yteiknefajlocoaa
/- Walks of layout's look, May, Hard, Fits. -/
namespace Go.Proofs.Yteiknefajlocoaa
open Go.ChangeShapes Go.WideShapes Go.ChangeAt Go.RowKit
set_option linter.unusedVariables false
set_option linter.unusedSimpArgs false

theorem Rows.upd {w w' : World} {oa : Option Addr} {b o n c : Nat} {f : Nat → Nat → Value} {p : Addr} {v : Value} (h : Rows w oa b o n c f) (hp : p.block ≠ b) (hx : Ext (w.setCell p v) w') : Rows w' oa b o n c f :=
  ⟨h.at_, fun i j hi hj => upd_cell hx (by rintro rfl; exact hp rfl) (h.cell i j hi hj)⟩
theorem lt_of_rows {w : World} {oa : Option Addr} {b o n c : Nat} {f : Nat → Nat → Value} (h : Rows w oa b o n c f) (hn : 0 < n) (hc : 0 < c) : b < w.heap.size := by
  have := block_lt (h.cell 0 0 hn hc)
  exact this
/-- a slice of nothing may as well lie at any block -/
theorem Rows.away {w : World} {oa : Option Addr} {b o n c : Nat} {f : Nat → Nat → Value} (h : Rows w oa b o n c f) (hc : 0 < c) (g : Nat) (hg : w.heap.size ≤ g) : ∃ b', b' ≠ g ∧ Rows w oa b' o n c f := by
  by_cases hn : 0 < n
  · exact ⟨b, by have := lt_of_rows h hn hc; omega, h⟩
  · refine ⟨g + 1, by omega, ⟨fun h0 => absurd h0 hn, fun i j hi hj => by omega⟩⟩
theorem one_le_cast (n : Nat) : decide (1 ≤ n) = decide ((1 : Int) ≤ (n : Int)) := by rw [Bool.eq_iff_iff]; simp; omega
set_option maxHeartbeats 4000000 in
theorem look_c (p : LProg) (v : Value) (most R : Int) (hm : R64 most) (hRr : R64 R) (w : World) (hp : ProgAt w v p) :
    Calls Try.prog 86 #[v, .int .i64 most, .int .i64 R] w fun e w' => e = .returned (.bool (progOk p most R)) ∧ Ext w w' := by
  have hp' := hp
  obtain ⟨v1, v2, rfl, ⟨hb, oa, cap, b, o, rfl, hc1, hc2, hrow⟩, ⟨hf, ob, capb, b2, o2, rfl, hd1, hd2, hrow2⟩⟩ := hp
  have HP := Lib.hid hp'
  have hm0 := hm.1
  have hm1 := hm.2
  have Hrow := Lib.hid hrow
  have Hrow2 := Lib.hid hrow2
  have hlen := len_bd hc1 hc2
  have hlen2 := len_bd hd1 hd2
  have hix := index_code (cap := capb) hrow2.at_
  clear hrow hrow2 hc1 hc2 hd1 hd2 hp'
  go_enter Try.func86, Try.ntmps86
  go_upto_region 1 with fail
  obtain ⟨w0, g, hg, hW, hx, c0, c1⟩ := new2 w 25 (.slice oa p.regs.length cap) (.slice ob p.code.length capb)
  rw [hW, hg]
  have X0 := Lib.hid hx
  clear hW hx
  have hgs : w.heap.size ≤ g := by omega
  clear hg
  obtain ⟨ok0, Hok0⟩ : ∃ b : Bool, Hid (b = (regsOk p.regs && decide ((1 : Int) ≤ (p.code.length : Int)) && decide ((p.code.length : Int) ≤ most))) := ⟨_, Lib.hid rfl⟩
  go_cut [7] (fun s7 wx => ∃ k : Nat, s7 = .pointer (some ⟨k, 0, none⟩) ∧ w0.heap.size ≤ k ∧ Ext w0 wx ∧ Blk wx k 157 #[.slice oa p.regs.length cap, .slice ob p.code.length capb, .int .i64 R, .bool ok0])
  case first =>
    have k0 : ∀ W, Ext w0 W → W.cell? ⟨g, 0, none⟩ = some (.slice oa p.regs.length cap) := fun _ h => h.kept c0.1
    have k1 : ∀ W, Ext w0 W → W.cell? ⟨g, 1, none⟩ = some (.slice ob p.code.length capb) := fun _ h => h.kept c1.1
    have HC : ∀ W, Ext w0 W → Hid (Calls Try.prog 121 #[.agg #[.slice oa p.regs.length cap, .slice ob p.code.length capb]] W fun e w' => e = .returned (.bool (regsOk p.regs)) ∧ Ext W w') := fun W h => Lib.hid (regions_c p _ W (HP.out.ext (X0.out.trans h)))
    refine region_fresh 19 18 (some 28) (by decide) rfl (by kernel_rfl) (by kernel_rfl) (fun k => .pointer (some ⟨k, 0, none⟩)) 157 #[.slice oa p.regs.length cap, .slice ob p.code.length capb, .int .i64 R, .bool ok0] ?_
    simp only [List.take_succ_cons, List.take_zero, List.drop_succ_cons, List.drop_zero]
    cases hr : regsOk p.regs
    · have hk0 : ok0 = false := by rw [Hok0.out, hr]; rfl
      rw [hr] at HC
      clear hr Hok0
      subst hk0
      repeat (first | (refine calm_fresh ?_ ?_ (fun wc hE => ?_) ?_; (decide); rfl; (focus (go_simp; done)); go_simp) | (refine calm_value ?_ ?_ ?_; (decide); (first | rfl | (focus (go_simp; done))); apply Exists.intro; refine ⟨fun wc hE => ?_, ?_⟩; (go_simp; exact rfl); go_simp) | (refine calm_call ?_ ?_ ?_; (decide); (first | rfl | (focus (go_simp; done))); apply Exists.intro; refine ⟨fun wc hE => ?_, ?_⟩; (go_simp; (first | (with_reducible exact calm_enter ((HC _ ‹_›).out)))); go_simp) | (refine calm_skip ?_ ?_ ?_; (decide); (focus (go_simp; done)); go_simp))
      refine calm_nil ?_
      intro k wx hk hB hE
      go_wp2
      go_meet
      exact ⟨k, rfl, hk, hE, hB⟩
    · rw [hr] at HC
      by_cases h1 : (1 : Int) ≤ (p.code.length : Int)
      · by_cases h2 : (p.code.length : Int) ≤ most
        · have hk0 : ok0 = true := by rw [Hok0.out, hr]; simp [h1, h2]
          clear hr Hok0
          subst hk0
          repeat (first | (refine calm_fresh ?_ ?_ (fun wc hE => ?_) ?_; (decide); rfl; (focus (go_simp; done)); go_simp) | (refine calm_value ?_ ?_ ?_; (decide); (first | rfl | (focus (go_simp; done))); apply Exists.intro; refine ⟨fun wc hE => ?_, ?_⟩; (go_simp; exact rfl); go_simp) | (refine calm_call ?_ ?_ ?_; (decide); (first | rfl | (focus (go_simp; done))); apply Exists.intro; refine ⟨fun wc hE => ?_, ?_⟩; (go_simp; (first | (with_reducible exact calm_enter ((HC _ ‹_›).out)))); go_simp) | (refine calm_skip ?_ ?_ ?_; (decide); (focus (go_simp; done)); go_simp))
          refine calm_nil ?_
          intro k wx hk hB hE
          go_wp2
          go_meet
          exact ⟨k, rfl, hk, hE, hB⟩
        · have hk0 : ok0 = false := by rw [Hok0.out, hr]; simp [h1, h2]
          have h2' : decide ((p.code.length : Int) ≤ most) = false := by simpa using h2
          clear hr Hok0 h2
          subst hk0
          repeat (first | (refine calm_fresh ?_ ?_ (fun wc hE => ?_) ?_; (decide); rfl; (focus (go_simp; done)); go_simp) | (refine calm_value ?_ ?_ ?_; (decide); (first | rfl | (focus (go_simp; done))); apply Exists.intro; refine ⟨fun wc hE => ?_, ?_⟩; (go_simp; exact rfl); go_simp) | (refine calm_call ?_ ?_ ?_; (decide); (first | rfl | (focus (go_simp; done))); apply Exists.intro; refine ⟨fun wc hE => ?_, ?_⟩; (go_simp; (first | (with_reducible exact calm_enter ((HC _ ‹_›).out)))); go_simp) | (refine calm_skip ?_ ?_ ?_; (decide); (focus (go_simp; done)); go_simp))
          refine calm_nil ?_
          intro k wx hk hB hE
          go_wp2
          go_meet
          exact ⟨k, rfl, hk, hE, hB⟩
      · have hk0 : ok0 = false := by rw [Hok0.out, hr]; simp [h1]
        have h1' : decide ((1 : Int) ≤ (p.code.length : Int)) = false := by simpa using h1
        clear hr Hok0 h1
        subst hk0
        repeat (first | (refine calm_fresh ?_ ?_ (fun wc hE => ?_) ?_; (decide); rfl; (focus (go_simp; done)); go_simp) | (refine calm_value ?_ ?_ ?_; (decide); (first | rfl | (focus (go_simp; done))); apply Exists.intro; refine ⟨fun wc hE => ?_, ?_⟩; (go_simp; exact rfl); go_simp) | (refine calm_call ?_ ?_ ?_; (decide); (first | rfl | (focus (go_simp; done))); apply Exists.intro; refine ⟨fun wc hE => ?_, ?_⟩; (go_simp; (first | (with_reducible exact calm_enter ((HC _ ‹_›).out)))); go_simp) | (refine calm_skip ?_ ?_ ?_; (decide); (focus (go_simp; done)); go_simp))
        refine calm_nil ?_
        intro k wx hk hB hE
        go_wp2
        go_meet
        exact ⟨k, rfl, hk, hE, hB⟩
  case rest =>
  obtain ⟨k, rfl, hk, hE, hB⟩ := hcut
  have g0 : wc.cell? ⟨k, 0, none⟩ = some (.slice oa p.regs.length cap) := by rw [hB.cell]; rfl
  have g1 : wc.cell? ⟨k, 1, none⟩ = some (.slice ob p.code.length capb) := by rw [hB.cell]; rfl
  have g2 : wc.cell? ⟨k, 2, none⟩ = some (.int .i64 R) := by rw [hB.cell]; rfl
  have g3 : wc.cell? ⟨k, 3, none⟩ = some (.bool ok0) ∧ wc.frozen? ⟨k, 3, none⟩ = false := ⟨by rw [hB.cell]; rfl, hB.frozen 3⟩
  have c0 := kept2 hE c0
  have c1 := kept2 hE c1
  have XC := Lib.hid (X0.out.trans hE)
  have hks : w.heap.size ≤ k := Nat.le_trans X0.out.size hk
  obtain ⟨b', hb', hR'⟩ := Hrow.out.away (by omega) k hks
  have HR := Lib.hid (hR'.ext XC.out)
  clear hB hE hk hR'
  go_wp2_with fail
  go_loopw [32] (fun i wr => ∃ j : Nat, j ≤ p.code.length ∧ i = .int .i64 j ∧ Ext (wc.setCell ⟨k, 3, none⟩ (.bool (ok0 && (p.code.take j).all (insOk p R)))) wr) (fun i _ => p.code.length - (intOf i).toNat)
  case atStart => exact ⟨0, by omega, rfl, by simpa using upd_refl g3.1 (Ext.refl _)⟩
  case round =>
    obtain ⟨j, hj, rfl, hr⟩ := hrel
    have r0 := upd_cell hr (by simp) g0
    have r1 := upd_cell hr (by simp) g1
    have r2 := upd_cell hr (by simp) g2
    have r3 := upd_same hr g3
    have Hr := Lib.hid hr
    have EW := Lib.hid (upd_new hr XC.out hks)
    clear hr
    by_cases hlt : j < p.code.length
    · obtain ⟨e0, e1, e2, e3, e4⟩ := (Hrow2.out.ext EW.out).ins j hlt
      have hfi := hf _ (getD_mem hlt)
      have Hs := Lib.hid (take_and (insOk p R) p.code j default hlt ok0)
      have Hfalse := Lib.hid (all_false (insOk p R) p.code j default hlt)
      generalize p.code.getD j default = i at *
      obtain ⟨okj, Hokj⟩ : ∃ b : Bool, Hid (b = (ok0 && (p.code.take j).all (insOk p R))) := ⟨_, Lib.hid rfl⟩
      rw [← Hokj.out] at r3 Hr Hs
      have hkl : k < wr.heap.size := block_lt r3.1
      cases okj
      · go_wp2
        go_ret
        refine ⟨ret_b ?_, EW.out.alloc _⟩
        have hz := Hokj.out
        have ht : (ok0 && p.code.all (insOk p R)) = false := by
          rw [← List.take_append_drop j p.code, List.all_append, ← Bool.and_assoc, ← hz]; rfl
        unfold progOk
        rw [← ht, Hok0.out]
        rw [one_le_cast]
      · have hreg : true = true → ∀ r ∈ p.regs, 0 ≤ r.log ∧ r.log ≤ 6 := fun _ => by
          have hz := Hokj.out.symm
          rw [Hok0.out] at hz
          simp only [Bool.and_eq_true] at hz
          have h1 := hz.1.1.1
          simp only [regsOk, Bool.and_eq_true, List.all_eq_true] at h1
          intro r hr
          have := h1.1 r hr
          simpa [regOk] using this
        have hA := (Ext.refl wr).alloc (.cells #[.int .i64 i.op, .int .i64 i.a, .int .i64 i.b, .int .i64 i.c, .int .i64 i.n] 70)
        have C := ins_c k oa cap ob capb R true p i hfi (wr.alloc (.cells #[.int .i64 i.op, .int .i64 i.a, .int .i64 i.b, .int .i64 i.c, .int .i64 i.n] 70)) b' o (Ne.symm hb') ((HR.out.upd (Ne.symm hb') Hr.out).ext hA) hreg (hA.kept r0) (hA.kept r1) (hA.kept r2) (kept2 hA r3)
        have HC := Lib.hid C
        clear C hA hreg
        go_wp2_with fail
        (with_reducible refine HC.out.mono ?_)
        rintro e' w2 ⟨rfl, hx⟩
        have hfin := Lib.hid (upd_trans Hr.out (upd_after ((Ext.refl wr).alloc _) hx))
        rw [← Hs.out] at hfin
        clear hx HC
        go_wp2
        go_roundw
        case rel => exact ⟨j + 1, by omega, by go_num, hfin.out⟩
        case measure => first | (simp [intOf]; done) | (simp [intOf]; omega)
    · have hje : j = p.code.length := by omega
      subst hje
      rw [List.take_length] at r3
      go_wp2
      go_ret
      refine ⟨ret_b ?_, EW.out⟩
      unfold progOk
      rw [Hok0.out]
      rw [one_le_cast]

theorem may_c (p : LProg) (v : Value) (w : World) (hp : ProgAt w v p) :
    Calls Try.prog 50 #[v] w fun e w' => e = .returned (.bool (mayOk p)) ∧ Ext w w' := by
  have HP := Lib.hid hp
  obtain ⟨v1, v2, rfl, -⟩ := hp
  go_enter Try.func50, Try.ntmps50
  go_wp2_with fail
  have hA := (Ext.refl w).alloc (.cells #[v1, v2] 25)
  have C := look_c p _ 200 8 (by unfold R64; omega) (by unfold R64; omega) _ (HP.out.ext hA)
  (with_reducible refine C.mono ?_)
  rintro e w1 ⟨rfl, hx⟩
  have HX := Lib.hid (hA.trans hx)
  clear hx hA C
  go_wp2
  go_ret
  exact ⟨rfl, HX.out⟩
theorem hard_c (p : LProg) (v : Value) (w : World) (hp : ProgAt w v p) :
    Calls Try.prog 103 #[v] w fun e w' => e = .returned (.bool (hardOk p)) ∧ Ext w w' := by
  have HP := Lib.hid hp
  obtain ⟨v1, v2, rfl, -⟩ := hp
  go_enter Try.func103, Try.ntmps103
  go_wp2_with fail
  have hA := (Ext.refl w).alloc (.cells #[v1, v2] 25)
  have C := look_c p _ 8000 10 (by unfold R64; omega) (by unfold R64; omega) _ (HP.out.ext hA)
  (with_reducible refine C.mono ?_)
  rintro e w1 ⟨rfl, hx⟩
  have HX := Lib.hid (hA.trans hx)
  clear hx hA C
  go_wp2
  go_ret
  exact ⟨rfl, HX.out⟩
end Go.Proofs.Yteiknefajlocoaa
