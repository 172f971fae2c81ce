/- Laid together from: Seq3, Seq4. -/
import Derived.Test.YteiknefajlocoaaSeqRunsB8

/- Walk of the program's word: a word taken or put. -/
namespace Go.Proofs.Yteiknefajlocoaa
open Go.ChangeShapes Go.WideShapes Go.ChangeAt Go.RowKit
set_option linter.unusedVariables false
set_option linter.unusedSimpArgs false

def basesOf (p : LProg) : List Int := (List.range p.regs.length).map fun k => (baseOf p k : Int)
theorem bases_len (p : LProg) : (basesOf p).length = p.regs.length := by simp [basesOf]
theorem bases_get (p : LProg) {c : Nat} (h : c < p.regs.length) : ((basesOf p).map (Value.int .i64))[c]? = some (.int .i64 (baseOf p c : Nat)) := by simp [basesOf, h]
theorem index_int0 (k n cap : Nat) (W : World) (i : Int) (h0 : 0 ≤ i) (h1 : i < n) :
    (Instr.indexAt 51 (.slice (some ⟨k, 0, none⟩) n cap) (.int .i64 i)).run Try.prog W = .ok (.pointer (some ⟨k, i.toNat, none⟩)) W := by
  have hs : (Try.prog.info? 3).map (·.size) = some 1 := by kernel_rfl
  simp [Instr.indexAt, run_underlying Try.underlying51, asIntOf, h0, h1]
  have := addr_add k 0 i.toNat
  simpa using this
/-- where a row of the call's own lies -/
theorem own_at {w : World} {B : Nat} {e : TypeId} {v : Value} {n : Nat} {xs : List Value} (h : w.ownsRow B e 1 v n xs) (hn : 0 < n) : ∃ k cap, v = .slice (some ⟨k, 0, none⟩) n cap ∧ B ≤ k ∧ ∀ j x, j < n → xs[j]? = some x → w.cell? ⟨k, j, none⟩ = some x ∧ w.frozen? ⟨k, j, none⟩ = false := by
  have h' := h
  rcases h.2 with ⟨-, h0⟩ | ⟨k, cap, cur, rfl, a1, a2, a3⟩
  · omega
  · exact ⟨k, cap, rfl, a1, fun j x hj hx => ⟨by rw [h'.cellAt j (by omega), hx], h'.frozenAt j⟩⟩
def wordM (p : LProg) (i : LIns) (M : Mach) : Mach :=
  let q := baseOf p i.c.toNat + (idxOf M.regs i).toNat
  if isPut i then { M with seen := M.seen ++ [⟨2, (q : Nat), putN i⟩], words := M.words.set q (rg M.regs i.a) }
  else { M with seen := M.seen ++ [⟨2, (q : Nat), putN i⟩], regs := rset M.regs i.a (M.words.getD q 0) }
def WordPost (p : LProg) (w : World) (B g : Nat) (vR vC vM vB vW : Value) (bases : List Int) (M : Mach) (i : LIns) (e : Ending) (w' : World) : Prop :=
  (insideB p i (idxOf M.regs i) = true ∧ e = .returned (.bool true) ∧ ∃ vS', MSt w' B g vR vC vM vB vS' vW bases (wordM p i M) ∧ Below B w w') ∨ (insideB p i (idxOf M.regs i) = false ∧ e = .returned (.bool false) ∧ Ext w w')
theorem MSt.below {w w' : World} {B g : Nat} {vR vC vM vB vS vW : Value} {bases : List Int} {M : Mach} (h : MSt w B g vR vC vM vB vS vW bases M) (ht : Turn (fun j => j = g ∨ vS.ownBlock = some j) w w') : Below B w w' :=
  ht.below h.size (by
    rintro j (rfl | e)
    · exact h.hg
    · exact own_base h.sn j e)
set_option maxRecDepth 100000 in
set_option maxHeartbeats 4000000 in
theorem word_c (p : LProg) (i : LIns) {B g : Nat} {vR vC vM vB vS vW : Value} {M : Mach} (hw : i.op = 3 ∨ i.op = 4 ∨ i.op = 5 ∨ i.op = 6) (hi : insOk p 10 i = true) (hr : regsOk p.regs = true) (hok : MOk p M) (hsn : M.seen.length ≤ 1000000) (w : World) (hR : RegsAt w vR p.regs) (h : MSt w B g vR vC vM vB vS vW (basesOf p) M) :
    Calls Try.prog 109 #[.pointer (some ⟨g, 0, none⟩), insV i] w (WordPost p w B g vR vC vM vB vW (basesOf p) M i) := by
  obtain ⟨ha, hb, hc0, hc1⟩ := word_parts hi hw
  have hbe := base_end p i.c.toNat hc1
  have htt := total_le hr
  have hlen := regsOk_len hr
  have hw6 : wordsOf (p.regs.getD i.c.toNat default) ≤ 64 := words_le _ (regsOk_log hr _ (getD_mem hc1)).2
  have H := Lib.hid h
  have HR := Lib.hid hR
  have Hr := Lib.hid hr
  have Hok := Lib.hid hok
  have Ha := Lib.hid ha
  have Hb := Lib.hid hb
  have Hc1 := Lib.hid hc1
  have hgl := h.box.lt
  have hwl := hok.wlen
  have Hput : Hid (putN i = if isPut i then 1 else 0) := Lib.hid rfl
  have HW : Hid (∀ w', insideB p i (idxOf M.regs i) = true → (∃ vS', MSt w' B g vR vC vM vB vS' vW (basesOf p) (wordM p i M) ∧ Below B w w') → WordPost p w B g vR vC vM vB vW (basesOf p) M i (.returned (.bool true)) w') := Lib.hid fun w' h1 h2 => .inl ⟨h1, rfl, h2⟩
  have HW2 : Hid (∀ w', insideB p i (idxOf M.regs i) = false → Ext w w' → WordPost p w B g vR vC vM vB vW (basesOf p) M i (.returned (.bool false)) w') := Lib.hid fun w' h1 h2 => .inr ⟨h1, rfl, h2⟩
  have HM : Hid (wordM p i M = if isPut i then { M with seen := M.seen ++ [⟨2, ((baseOf p i.c.toNat + (idxOf M.regs i).toNat : Nat) : Int), putN i⟩], words := M.words.set (baseOf p i.c.toNat + (idxOf M.regs i).toNat) (rg M.regs i.a) }
    else { M with seen := M.seen ++ [⟨2, ((baseOf p i.c.toNat + (idxOf M.regs i).toNat : Nat) : Int), putN i⟩], regs := rset M.regs i.a (M.words.getD (baseOf p i.c.toNat + (idxOf M.regs i).toNat) 0) }) := Lib.hid rfl
  generalize WordPost p w B g vR vC vM vB vW (basesOf p) M i = WP at *
  obtain ⟨op, a, b, c, n⟩ := i
  simp only at ha hb hc0 hc1 hbe hw6
  obtain ⟨a0, a1⟩ := okIn_iff.1 ha
  have CI := Lib.hid fun w' (hx : Ext w w') => index_c w' (h.ext hx) ⟨op, a, b, c, n⟩ hb
  have CP := Lib.hid fun w' => puts_c ⟨op, a, b, c, n⟩ w'
  simp only [insV] at CI CP
  have HIn : Hid (∀ x, insideB p ⟨op, a, b, c, n⟩ x = (decide (0 ≤ x) && decide (x < (wordsOf (p.regs.getD c.toNat default) : Nat)))) := Lib.hid fun x => rfl
  unfold insV
  simp only
  clear hok hi hr hR hw h
  go_enter Try.func109, Try.ntmps109
  go_wp2_with fail
  obtain ⟨w0, e, he, hW, hs0, hx0, c0, c1, c2, c3, c4⟩ := new5 w 70 (.int .i64 op) (.int .i64 a) (.int .i64 b) (.int .i64 c) (.int .i64 n)
  rw [hW, he]
  have X := Lib.hid hx0
  have hge : g ≠ e := by omega
  have hew : w.heap.size = e := he
  clear hW hs0 hx0
  (with_reducible refine (CI.out w0 X.out).mono ?_)
  clear CI
  rintro er w1 ⟨rfl, hx⟩
  generalize idxOf M.regs ⟨op, a, b, c, n⟩ = x at *
  have X := Lib.hid (X.out.trans hx)
  have c0 := hx.kept c0
  have c1 := hx.kept c1
  have c2 := hx.kept c2
  have c3 := hx.kept c3
  have c4 := hx.kept c4
  clear hx
  go_wp2_with fail
  have C := inside_c w1 (H.out.ext X.out) p (HR.out.ext X.out) Hr.out c x hc0 hc1
  have Hc0 := Lib.hid hc0
  rw [← HIn.out] at C
  have HIx := Lib.hid (HIn.out x)
  cases hin : insideB p ⟨op, a, b, c, n⟩ x
  · rw [hin] at C HIx HW2
    (with_reducible refine C.mono ?_)
    clear C
    rintro er w2 ⟨rfl, hx⟩
    have X := Lib.hid (X.out.trans hx)
    clear hx hin
    go_wp2
    exact HW2.out _ (by trivial) X.out
  rw [hin] at C HIx HW
  (with_reducible refine C.mono ?_)
  clear C
  rintro er w2 ⟨rfl, hx⟩
  have hi2 := HIx.out.symm
  simp only [Bool.and_eq_true, decide_eq_true_eq] at hi2
  obtain ⟨hx0, hx1⟩ := hi2
  have X := Lib.hid (X.out.trans hx)
  have c0 := hx.kept c0
  have c1 := hx.kept c1
  have c2 := hx.kept c2
  have c3 := hx.kept c3
  have c4 := hx.kept c4
  have P := H.out.ext X.out
  obtain ⟨-, -, -, -, -, -, -, g17, -, g19⟩ := P.cells
  obtain ⟨kw, capw, hvw, hkw, hws⟩ := own_at P.ws (show 0 < M.words.length by omega)
  obtain ⟨kb, capb, hvb, hkb, hbs⟩ := own_at P.bs (show 0 < (basesOf p).length by rw [bases_len]; omega)
  obtain ⟨b19, -⟩ := hbs c.toNat _ (by rw [bases_len]; omega) (bases_get p hc1)
  have P := Lib.hid P
  rw [bases_len] at hvb
  subst hvw
  subst hvb
  have hbb : (baseOf p c.toNat : Int) ≤ 384 := by omega
  have hcl : c < (p.regs.length : Int) := by omega
  have hql : baseOf p c.toNat + x.toNat < M.words.length := by omega
  have hixw : ∀ W, (Instr.indexAt 71 (.slice (some ⟨kw, 0, none⟩) M.words.length capw) (.int .i64 ((baseOf p c.toNat : Int) + x))).run Try.prog W = .ok (.pointer (some ⟨kw, baseOf p c.toNat + x.toNat, none⟩)) W := fun W => by
    have := index_row W kw M.words.length capw ((baseOf p c.toNat : Int) + x) (by omega) (by omega)
    rw [show ((baseOf p c.toNat : Int) + x).toNat = baseOf p c.toNat + x.toNat by omega] at this
    exact this
  have Hq : Hid ((baseOf p c.toNat : Int) + x = ((baseOf p c.toNat + x.toNat : Nat) : Int)) := Lib.hid (by omega)
  have Hql := Lib.hid hql
  have hwr : IntKind.i64.wrap ((baseOf p c.toNat : Int) + x) = (baseOf p c.toNat : Int) + x := Go.IntWalk.i64_in _ (by omega)
  clear hwl
  clear hx hin hws hbs HW2 HIx HIn HR
  generalize hbo : baseOf p c.toNat = bo at *
  have hixb := index_int0 kb p.regs.length capb
  have hixr := index_arr
  go_upto_region 4 with fail
  have k3 : ∀ W, Ext w2 W → W.cell? ⟨e, 3, none⟩ = some (.int .i64 c) := fun _ h => h.kept c3
  have k17 : ∀ W, Ext w2 W → W.cell? ⟨g, 17, none⟩ = some (.slice (some ⟨kw, 0, none⟩) M.words.length capw) := fun _ h => h.kept g17.1
  have k19 : ∀ W, Ext w2 W → W.cell? ⟨g, 19, none⟩ = some (.slice (some ⟨kb, 0, none⟩) p.regs.length capb) := fun _ h => h.kept g19.1
  have kb9 : ∀ W, Ext w2 W → W.cell? ⟨kb, c.toNat, none⟩ = some (.int .i64 (bo : Int)) := fun _ h => h.kept b19
  refine region_calm 17 (by kernel_rfl) (by kernel_rfl) ?_
  simp only [List.take_succ_cons, List.take_zero, List.drop_succ_cons, List.drop_zero]
  repeat (first | (refine calm_fresh ?_ ?_ (fun wc hE => ?_) ?_; (decide); rfl; (focus (go_simp; done)); go_simp) | (refine calm_value ?_ ?_ ?_; (decide); (first | rfl | (focus (go_simp; done))); apply Exists.intro; refine ⟨fun wc hE => ?_, ?_⟩; (go_simp; exact rfl); go_simp) | (refine calm_call ?_ ?_ ?_; (decide); (first | rfl | (focus (go_simp; done))); apply Exists.intro; refine ⟨fun wc hE => ?_, ?_⟩; (go_simp; (first | fail)); go_simp) | (refine calm_skip ?_ ?_ ?_; (decide); (focus (go_simp; done)); go_simp))
  refine calm_nil ?_
  intro w3 hx
  clear k3 k17 k19 kb9
  have X := Lib.hid (X.out.trans hx)
  have P := Lib.hid (P.out.ext hx)
  have c0 := hx.kept c0
  have c1 := hx.kept c1
  have c2 := hx.kept c2
  have c3 := hx.kept c3
  have c4 := hx.kept c4
  have g19 := hx.kept g19.1
  have b19 := hx.kept b19
  clear hx g17
  go_wp2_with fail
  cases hput : isPut ⟨op, a, b, c, n⟩
  · rw [hput] at CP
    simp only [hput, if_true, Bool.false_eq_true, if_false] at Hput HM
    rw [Hput.out] at HM
    clear Hput hput
    (with_reducible refine (CP.out w3).mono ?_)
    clear CP
    rintro er w4 ⟨rfl, hx⟩
    have X := Lib.hid (X.out.trans hx)
    have P := Lib.hid (P.out.ext hx)
    have c1 := hx.kept c1
    have c3 := hx.kept c3
    have g19 := hx.kept g19
    have b19 := hx.kept b19
    clear hx c0 c2 c4
    go_upto_region 8 with fail
    have k3 : ∀ W, Ext w4 W → W.cell? ⟨e, 3, none⟩ = some (.int .i64 c) := fun _ h => h.kept c3
    have k19 : ∀ W, Ext w4 W → W.cell? ⟨g, 19, none⟩ = some (.slice (some ⟨kb, 0, none⟩) p.regs.length capb) := fun _ h => h.kept g19
    have kb9 : ∀ W, Ext w4 W → W.cell? ⟨kb, c.toNat, none⟩ = some (.int .i64 (bo : Int)) := fun _ h => h.kept b19
    refine region_calm 12 (by kernel_rfl) (by kernel_rfl) ?_
    simp only [List.take_succ_cons, List.take_zero, List.drop_succ_cons, List.drop_zero]
    repeat (first | (refine calm_fresh ?_ ?_ (fun wc hE => ?_) ?_; (decide); rfl; (focus (go_simp; done)); go_simp) | (refine calm_value ?_ ?_ ?_; (decide); (first | rfl | (focus (go_simp; done))); apply Exists.intro; refine ⟨fun wc hE => ?_, ?_⟩; (go_simp; exact rfl); go_simp) | (refine calm_call ?_ ?_ ?_; (decide); (first | rfl | (focus (go_simp; done))); apply Exists.intro; refine ⟨fun wc hE => ?_, ?_⟩; (go_simp; (first | fail)); go_simp) | (refine calm_skip ?_ ?_ ?_; (decide); (focus (go_simp; done)); go_simp))
    refine calm_nil ?_
    intro w5 hx
    clear k3 k19 kb9
    have X := Lib.hid (X.out.trans hx)
    have P := Lib.hid (P.out.ext hx)
    have c1 := hx.kept c1
    clear hx c3 g19 b19
    go_wp2_with fail
    (with_reducible refine (see_c w5 P.out 2 ((bo : Int) + x) 0 hsn).mono ?_)
    rintro er w6 ⟨rfl, vS2, P2, T2, N2⟩
    have hne : ¬ (e = g ∨ vS.ownBlock = some e) := by
      rintro (h1 | h1)
      · omega
      · have := (H.out.sn.lt e h1).2
        omega
    have hel := block_lt c1
    simp only at hel
    have c1 : w6.cell? ⟨e, 1, none⟩ = some (.int .i64 a) := by rw [cell_turn T2 hel hne]; exact c1
    have HB := Lib.hid ((P.out.below T2))
    have hwq : w6.cell? ⟨kw, bo + x.toNat, none⟩ = some (.int .i64 (M.words.getD (bo + x.toNat) 0)) ∧ w6.frozen? ⟨kw, bo + x.toNat, none⟩ = false := by
      have h0 := P2.ws.cellAt (bo + x.toNat) (by simpa using Hql.out)
      have h1 := P2.ws.frozenAt (bo + x.toNat)
      refine ⟨?_, by simpa using h1⟩
      rw [h0]
      simp [Hql.out]
    obtain ⟨ra, fa⟩ := P2.reg Ha.out
    simp only at ra
    rw [Hq.out] at P2
    have P2 := Lib.hid P2
    have hgl := P2.out.box.lt
    have hkl := block_lt hwq.1
    simp only at hkl
    clear T2 N2 hne
    go_upto_region 11 with fail
    have k1 : ∀ W, Ext w6 W → W.cell? ⟨e, 1, none⟩ = some (.int .i64 a) := fun _ h => h.kept c1
    have ka : ∀ W, Ext w6 W → W.cell? ⟨kw, bo + x.toNat, none⟩ = some (.int .i64 (M.words.getD (bo + x.toNat) 0)) := fun _ h => h.kept hwq.1
    have rr : w6.cell? ⟨g, 7 + a.toNat, none⟩ = some (.int .i64 (rg M.regs a)) ∧ w6.frozen? ⟨g, 7 + a.toNat, none⟩ = false := ⟨ra, fa⟩
    generalize M.words.getD (bo + x.toNat) 0 = z at *
    refine region_calm 9 (by kernel_rfl) (by kernel_rfl) ?_
    simp only [List.take_succ_cons, List.take_zero, List.drop_succ_cons, List.drop_zero]
    repeat (first | (refine calm_fresh ?_ ?_ (fun wc hE => ?_) ?_; (decide); rfl; (focus (go_simp; done)); go_simp) | (refine calm_value ?_ ?_ ?_; (decide); (first | rfl | (focus (go_simp; done))); apply Exists.intro; refine ⟨fun wc hE => ?_, ?_⟩; (go_simp; exact rfl); go_simp) | (refine calm_call ?_ ?_ ?_; (decide); (first | rfl | (focus (go_simp; done))); apply Exists.intro; refine ⟨fun wc hE => ?_, ?_⟩; (go_simp; (first | fail)); go_simp) | (refine calm_skip ?_ ?_ ?_; (decide); (focus (go_simp; done)); go_simp))
    refine calm_nil ?_
    intro w7 hx
    have rr := kept2 hx rr
    have P2 := Lib.hid (P2.out.ext hx)
    have HB := Lib.hid ((HB.out.trans (Below.mono hx (Nat.le_trans P.out.size (HB.out.size)))))
    clear k1 ka hx ra fa c1 hwq
    go_wp2
    refine HW.out _ (by trivial) ⟨vS2, ?_, ?_⟩
    · have := P2.out.reg_ Ha.out z
      rw [HM.out]
      exact this
    · exact (Below.mono X.out H.out.size).trans (HB.out.setCell P2.out.hg _)
  · rw [hput] at CP
    simp only [hput, if_true, Bool.false_eq_true, if_false] at Hput HM
    rw [Hput.out] at HM
    clear Hput hput
    (with_reducible refine (CP.out w3).mono ?_)
    clear CP
    rintro er w4 ⟨rfl, hx⟩
    have X := Lib.hid (X.out.trans hx)
    have P := Lib.hid (P.out.ext hx)
    have c1 := hx.kept c1
    have c3 := hx.kept c3
    have g19 := hx.kept g19
    have b19 := hx.kept b19
    clear hx c0 c2 c4
    go_upto_region 8 with fail
    have k3 : ∀ W, Ext w4 W → W.cell? ⟨e, 3, none⟩ = some (.int .i64 c) := fun _ h => h.kept c3
    have k19 : ∀ W, Ext w4 W → W.cell? ⟨g, 19, none⟩ = some (.slice (some ⟨kb, 0, none⟩) p.regs.length capb) := fun _ h => h.kept g19
    have kb9 : ∀ W, Ext w4 W → W.cell? ⟨kb, c.toNat, none⟩ = some (.int .i64 (bo : Int)) := fun _ h => h.kept b19
    refine region_calm 12 (by kernel_rfl) (by kernel_rfl) ?_
    simp only [List.take_succ_cons, List.take_zero, List.drop_succ_cons, List.drop_zero]
    repeat (first | (refine calm_fresh ?_ ?_ (fun wc hE => ?_) ?_; (decide); rfl; (focus (go_simp; done)); go_simp) | (refine calm_value ?_ ?_ ?_; (decide); (first | rfl | (focus (go_simp; done))); apply Exists.intro; refine ⟨fun wc hE => ?_, ?_⟩; (go_simp; exact rfl); go_simp) | (refine calm_call ?_ ?_ ?_; (decide); (first | rfl | (focus (go_simp; done))); apply Exists.intro; refine ⟨fun wc hE => ?_, ?_⟩; (go_simp; (first | fail)); go_simp) | (refine calm_skip ?_ ?_ ?_; (decide); (focus (go_simp; done)); go_simp))
    refine calm_nil ?_
    intro w5 hx
    clear k3 k19 kb9
    have X := Lib.hid (X.out.trans hx)
    have P := Lib.hid (P.out.ext hx)
    have c1 := hx.kept c1
    clear hx c3 g19 b19
    go_wp2_with fail
    (with_reducible refine (see_c w5 P.out 2 ((bo : Int) + x) 1 hsn).mono ?_)
    rintro er w6 ⟨rfl, vS2, P2, T2, N2⟩
    have hne : ¬ (e = g ∨ vS.ownBlock = some e) := by
      rintro (h1 | h1)
      · omega
      · have := (H.out.sn.lt e h1).2
        omega
    have hel := block_lt c1
    simp only at hel
    have c1 : w6.cell? ⟨e, 1, none⟩ = some (.int .i64 a) := by rw [cell_turn T2 hel hne]; exact c1
    have HB := Lib.hid ((P.out.below T2))
    have hwq : w6.cell? ⟨kw, bo + x.toNat, none⟩ = some (.int .i64 (M.words.getD (bo + x.toNat) 0)) ∧ w6.frozen? ⟨kw, bo + x.toNat, none⟩ = false := by
      have h0 := P2.ws.cellAt (bo + x.toNat) (by simpa using Hql.out)
      have h1 := P2.ws.frozenAt (bo + x.toNat)
      refine ⟨?_, by simpa using h1⟩
      rw [h0]
      simp [Hql.out]
    obtain ⟨ra, fa⟩ := P2.reg Ha.out
    simp only at ra
    rw [Hq.out] at P2
    have P2 := Lib.hid P2
    have hgl := P2.out.box.lt
    have hkl := block_lt hwq.1
    simp only at hkl
    clear T2 N2 hne
    go_upto_region 10 with fail
    have k1 : ∀ W, Ext w6 W → W.cell? ⟨e, 1, none⟩ = some (.int .i64 a) := fun _ h => h.kept c1
    have ka : ∀ W, Ext w6 W → W.cell? ⟨g, 7 + a.toNat, none⟩ = some (.int .i64 (rg M.regs a)) := fun _ h => h.kept ra
    refine region_calm 9 (by kernel_rfl) (by kernel_rfl) ?_
    simp only [List.take_succ_cons, List.take_zero, List.drop_succ_cons, List.drop_zero]
    repeat (first | (refine calm_fresh ?_ ?_ (fun wc hE => ?_) ?_; (decide); rfl; (focus (go_simp; done)); go_simp) | (refine calm_value ?_ ?_ ?_; (decide); (first | rfl | (focus (go_simp; done))); apply Exists.intro; refine ⟨fun wc hE => ?_, ?_⟩; (go_simp; exact rfl); go_simp) | (refine calm_call ?_ ?_ ?_; (decide); (first | rfl | (focus (go_simp; done))); apply Exists.intro; refine ⟨fun wc hE => ?_, ?_⟩; (go_simp; (first | fail)); go_simp) | (refine calm_skip ?_ ?_ ?_; (decide); (focus (go_simp; done)); go_simp))
    refine calm_nil ?_
    intro w7 hx
    have hwq := kept2 hx hwq
    have P2 := Lib.hid (P2.out.ext hx)
    have HB := Lib.hid ((HB.out.trans (Below.mono hx (Nat.le_trans P.out.size (HB.out.size)))))
    clear k1 ka hx ra fa c1
    go_wp2
    refine HW.out _ (by trivial) ⟨vS2, ?_, ?_⟩
    · have := P2.out.word (x := bo + x.toNat) rfl (rg M.regs a)
      rw [HM.out]
      exact this
    · exact (Below.mono X.out H.out.size).trans (HB.out.setCell hkw _)
end Go.Proofs.Yteiknefajlocoaa
/- Walk of the program's step. -/
namespace Go.Proofs.Yteiknefajlocoaa
open Go.ChangeShapes Go.WideShapes Go.ChangeAt Go.RowKit
set_option linter.unusedVariables false
set_option linter.unusedSimpArgs false

theorem step_word {p : LProg} {i : LIns} {M : Mach} (hw : i.op = 3 ∨ i.op = 4 ∨ i.op = 5 ∨ i.op = 6) (hin : insideB p i (idxOf M.regs i) = true) :
    stepM p i M = { wordM p i { M with steps := M.steps + 1, seen := M.seen ++ [⟨1, M.at_, 0⟩] } with at_ := M.at_ + 1 } := by
  unfold wordM
  by_cases h : i.op = 4 ∨ i.op = 6
  · have hp : isPut i = true := by unfold isPut; rcases h with h | h <;> simp [h]
    have hk : putN i = 1 := by unfold putN; rw [hp]; rfl
    rw [step_put h hin]
    simp only [hp, if_true, hk]
  · have h2 : i.op = 3 ∨ i.op = 5 := by omega
    have hp : isPut i = false := by unfold isPut; rcases h2 with h | h <;> simp [h]
    have hk : putN i = 0 := by unfold putN; rw [hp]; rfl
    rw [step_take h2 hin]
    simp only [hp, Bool.false_eq_true, if_false, hk]
theorem MOk.same {p : LProg} {M M' : Mach} (h : MOk p M) (h1 : M'.regs = M.regs) (h2 : M'.words = M.words) : MOk p M' := ⟨by rw [h1]; exact h.len, by rw [h1]; exact h.r64, by rw [h2]; exact h.wlen, by rw [h2]; exact h.w64⟩
def StepPost (p : LProg) (i : LIns) (wB : World) (g : Nat) (vR vC vM vB vW : Value) (M : Mach) (e : Ending) (w' : World) : Prop :=
  e = .returned (.tuple #[]) ∧ ∃ vS', MSt w' wB.heap.size g vR vC vM vB vS' vW (basesOf p) (stepM p i M) ∧ Ext wB w'
set_option maxRecDepth 100000 in
set_option maxHeartbeats 8000000 in
theorem step_c (p : LProg) (i : LIns) {wB : World} {g : Nat} {vR vC vM vB vS vW : Value} {M : Mach} (hi : p.code[M.at_]? = some i) (hh : hardOk p = true) (hfi : i.fits) (hok : MOk p M) (hsn : M.seen.length ≤ 900000) (hst : M.steps ≤ 40000) (w : World) (hp : ProgAt wB (.agg #[vR, vC]) p) (hbx : Ext wB w) (h : MSt w wB.heap.size g vR vC vM vB vS vW (basesOf p) M) :
    Calls Try.prog 71 #[.pointer (some ⟨g, 0, none⟩)] w (StepPost p i wB g vR vC vM vB vW M) := by
  obtain ⟨hr, hl1, hl2, hall⟩ := hard_parts hh
  have hat : M.at_ < p.code.length := (List.getElem?_eq_some_iff.1 hi).1
  have hp0 := hp
  have hpi : p.code.getD M.at_ default = i := by simp [List.getD_eq_getElem?_getD, hi]
  have hiok : insOk p 10 i = true := by rw [← hpi]; exact hall _ (getD_mem hat)
  obtain ⟨v1, v2, hv, hR0, -⟩ := hp0
  simp only [Value.agg.injEq, Array.mk.injEq, List.cons.injEq, and_true] at hv
  obtain ⟨rfl, -⟩ := hv
  have HR : Hid (∀ W, Ext wB W → RegsAt W vR p.regs) := Lib.hid fun W hW => hR0.ext hW
  clear hR0
  obtain ⟨v1, v2, hv, hR, ⟨-, oc, capc, bc, oo, rfl, hc1, hc2, hrow⟩⟩ := hp.ext hbx
  simp only [Value.agg.injEq, Array.mk.injEq, List.cons.injEq, and_true] at hv
  obtain ⟨rfl, rfl⟩ := hv
  have hix := index_code (cap := capc) hrow.at_
  obtain ⟨e0, e1, e2, e3, e4⟩ := hrow.ins M.at_ hat
  rw [hpi] at e0 e1 e2 e3 e4
  obtain ⟨-, g1, -, -, -, -, -, -, g18, -⟩ := h.cells
  have hgl := h.box.lt
  have H := Lib.hid h
  have HB0 := Lib.hid hbx
  have Hr := Lib.hid hr
  have Hmok := Lib.hid hok
  have Hiok := Lib.hid hiok
  have Hfi := Lib.hid hfi
  have Hsn := Lib.hid hsn
  have HSP : Hid (∀ vS' w', MSt w' wB.heap.size g vR (.slice oc p.code.length capc) vM vB vS' vW (basesOf p) (stepM p i M) → Ext wB w' → StepPost p i wB g vR (.slice oc p.code.length capc) vM vB vW M (.returned (.tuple #[])) w') := Lib.hid fun vS' w' h1 h2 => ⟨rfl, vS', h1, h2⟩
  generalize StepPost p i wB g vR (.slice oc p.code.length capc) vM vB vW M = SP at *
  clear hrow hR hr hall hok hiok hfi hpi hi hh h hbx
  obtain ⟨op, a, b, c, n⟩ := i
  simp only at e0 e1 e2 e3 e4
  go_enter Try.func71, Try.ntmps71
  go_upto_region 0 with fail
  have k1 : ∀ W, Ext w W → W.cell? ⟨g, 1, none⟩ = some (.slice oc p.code.length capc) := fun _ h => h.kept g1.1
  have k18 : ∀ W, Ext w W → W.cell? ⟨g, 18, none⟩ = some (.int .i64 (M.at_ : Int)) := fun _ h => h.kept g18.1
  have m0 : ∀ W, Ext w W → W.cell? ⟨bc, oo + M.at_ * 5, none⟩ = some (.int .i64 op) := fun _ h => h.kept e0
  have m1 : ∀ W, Ext w W → W.cell? ⟨bc, oo + M.at_ * 5 + 1, none⟩ = some (.int .i64 a) := fun _ h => h.kept e1
  have m2 : ∀ W, Ext w W → W.cell? ⟨bc, oo + M.at_ * 5 + 2, none⟩ = some (.int .i64 b) := fun _ h => h.kept e2
  have m3 : ∀ W, Ext w W → W.cell? ⟨bc, oo + M.at_ * 5 + 3, none⟩ = some (.int .i64 c) := fun _ h => h.kept e3
  have m4 : ∀ W, Ext w W → W.cell? ⟨bc, oo + M.at_ * 5 + 4, none⟩ = some (.int .i64 n) := fun _ h => h.kept e4
  refine region_fresh 13 12 (some 2) (by decide) rfl (by kernel_rfl) (by kernel_rfl) (fun k => .pointer (some ⟨k, 0, none⟩)) 70 #[.int .i64 0, .int .i64 0, .int .i64 0, .int .i64 0, .int .i64 0] ?_
  simp only [List.take_succ_cons, List.take_zero, List.drop_succ_cons, List.drop_zero]
  repeat (first | (refine calm_fresh ?_ ?_ (fun wc hE => ?_) ?_; (decide); rfl; (focus (go_simp; done)); go_simp) | (refine calm_value ?_ ?_ ?_; (decide); (first | rfl | (focus (go_simp; done))); apply Exists.intro; refine ⟨fun wc hE => ?_, ?_⟩; (go_simp; exact rfl); go_simp) | (refine calm_call ?_ ?_ ?_; (decide); (first | rfl | (focus (go_simp; done))); apply Exists.intro; refine ⟨fun wc hE => ?_, ?_⟩; (go_simp; (first | fail)); go_simp) | (refine calm_skip ?_ ?_ ?_; (decide); (focus (go_simp; done)); go_simp))
  refine calm_nil ?_
  intro k wx hk hB hx
  clear k1 k18 m0 m1 m2 m3 m4 e0 e1 e2 e3 e4 g1 g18
  refine store_all hB #[.int .i64 op, .int .i64 a, .int .i64 b, .int .i64 c, .int .i64 n] rfl rfl rfl (by kernel_rfl) (by simp [Value.oneCell']) ?_
  have bI := hB.stored #[.int .i64 op, .int .i64 a, .int .i64 b, .int .i64 c, .int .i64 n] rfl
  have hx2 := hx.setCells (#[.int .i64 op, .int .i64 a, .int .i64 b, .int .i64 c, .int .i64 n] : Array Value).toList hk 0
  generalize wx.setCells k 0 (#[.int .i64 op, .int .i64 a, .int .i64 b, .int .i64 c, .int .i64 n] : Array Value).toList = w1 at *
  have X := Lib.hid hx2
  have P := Lib.hid (H.out.ext hx2)
  have hks : some k ≠ vS.ownBlock := by
    intro e
    have := (H.out.sn.lt k e.symm).2
    omega
  have hkg : k ≠ g := by omega
  have Hks := Lib.hid hks
  obtain ⟨-, -, -, -, g4, -, -, -, g18, -⟩ := P.out.cells
  have hgl := P.out.box.lt
  have hkl := bI.lt
  clear hx hx2 hB hk hks
  go_wp2_with fail
  have P2 := P.out.steps_ (M.steps + 1)
  rw [show ((M.steps + 1 : Nat) : Int) = (M.steps : Int) + 1 by omega] at P2
  have bI := bI.far (p := ⟨g, 4, none⟩) hkg (.int .i64 ((M.steps : Int) + 1))
  have HB2 : Hid (Ext wB (w1.setCell ⟨g, 4, none⟩ (.int .i64 ((M.steps : Int) + 1)))) := Lib.hid ((HB0.out.trans X.out).setCell H.out.hg _)
  generalize w1.setCell ⟨g, 4, none⟩ (.int .i64 ((M.steps : Int) + 1)) = w2 at *
  (with_reducible refine (see_c w2 P2 1 M.at_ 0 (by simpa using Nat.le_trans Hsn.out (by omega))).mono ?_)
  rintro e w3 ⟨rfl, vS2, P3, T3, N3⟩
  have bI := bI.turn T3 (by
    rintro (h1 | h1)
    · exact hkg h1
    · exact Hks.out h1.symm)
  have HB : Hid (Ext wB w3) := Lib.hid (Below.trans HB2.out (P2.below T3))
  have i0 : w3.cell? ⟨k, 0, none⟩ = some (.int .i64 op) := by rw [bI.cell]; rfl
  have i1 : w3.cell? ⟨k, 1, none⟩ = some (.int .i64 a) := by rw [bI.cell]; rfl
  have i2 : w3.cell? ⟨k, 2, none⟩ = some (.int .i64 b) := by rw [bI.cell]; rfl
  have i3 : w3.cell? ⟨k, 3, none⟩ = some (.int .i64 c) := by rw [bI.cell]; rfl
  have i4 : w3.cell? ⟨k, 4, none⟩ = some (.int .i64 n) := by rw [bI.cell]; rfl
  obtain ⟨-, -, g2, g3, -, -, -, -, g18, -⟩ := P3.cells
  have hgl := P3.box.lt
  have hkl := bI.lt
  simp only at g2 g3 g18
  have Hreg : Hid (∀ a, okIn 10 a = true → w3.cell? ⟨g, 7 + a.toNat, none⟩ = some (.int .i64 (rg M.regs a)) ∧ w3.frozen? ⟨g, 7 + a.toNat, none⟩ = false) := Lib.hid fun a ha => P3.reg ha
  have PP := Lib.hid P3
  clear P3 T3 N3 P2 HB2 P bI g4
  by_cases h7 : op = 7
  · subst h7
    have hn := (ins_regs Hiok.out).2.2.2.2.2.2.2.2.2.1 (.inl rfl)
    simp only at hn
    have Hn : Hid (n = ((n.toNat : Nat) : Int)) := Lib.hid (by omega)
    have Hs : Hid (stepM p ⟨7, a, b, c, n⟩ M = { M with at_ := n.toNat, steps := M.steps + 1, seen := M.seen ++ [⟨1, M.at_, 0⟩] }) := Lib.hid rfl
    clear hn
    go_wp2
    try refine bodyPost_end (results_none rfl _ _ _) rfl ?_
    refine HSP.out vS2 _ ?_ (HB.out.setCell PP.out.hg _)
    have := PP.out.at__ n.toNat
    rw [← Hn.out] at this
    rw [Hs.out]
    exact this
  by_cases h8 : op = 8
  · subst h8
    have hn := (ins_regs Hiok.out).2.2.2.2.2.2.2.2.2.1 (.inr rfl)
    obtain ⟨ha, hb, -, -⟩ := (ins_regs Hiok.out).2.2.2.2.2.1 rfl
    simp only at hn ha hb
    have Hn : Hid (n = ((n.toNat : Nat) : Int)) := Lib.hid (by omega)
    obtain ⟨a0, a1⟩ := okIn_iff.1 ha
    obtain ⟨b0, b1⟩ := okIn_iff.1 hb
    obtain ⟨ra, -⟩ := Hreg.out a ha
    obtain ⟨rb, -⟩ := Hreg.out b hb
    have k1 : ∀ W, Ext w3 W → W.cell? ⟨k, 1, none⟩ = some (.int .i64 a) := fun _ h => h.kept i1
    have k2 : ∀ W, Ext w3 W → W.cell? ⟨k, 2, none⟩ = some (.int .i64 b) := fun _ h => h.kept i2
    have k3 : ∀ W, Ext w3 W → W.cell? ⟨k, 3, none⟩ = some (.int .i64 c) := fun _ h => h.kept i3
    have ma : ∀ W, Ext w3 W → W.cell? ⟨g, 7 + a.toNat, none⟩ = some (.int .i64 (rg M.regs a)) := fun _ h => h.kept ra
    have mb : ∀ W, Ext w3 W → W.cell? ⟨g, 7 + b.toNat, none⟩ = some (.int .i64 (rg M.regs b)) := fun _ h => h.kept rb
    have hixr := index_arr
    clear hn i1 i2 i3 ra rb g2 g3
    cases hh : nholds c (rg M.regs a) (rg M.regs b)
    · have Hs : Hid (stepM p ⟨8, a, b, c, n⟩ M = { M with at_ := M.at_ + 1, steps := M.steps + 1, seen := M.seen ++ [⟨1, M.at_, 0⟩] }) := Lib.hid (by
        unfold stepM
        simp only
        rw [if_neg (by omega), if_pos trivial, if_neg (by rw [hh]; simp)])
      have C8 : ∀ W, Calls Try.prog 106 #[.int .i64 c, .int .i64 (rg M.regs a), .int .i64 (rg M.regs b)] W fun e w' => e = .returned (.bool false) ∧ Ext W w' := fun W => by
        have := numHolds_c c (rg M.regs a) (rg M.regs b) W
        rw [hh] at this
        exact this
      have C8 := Lib.hid C8
      clear hh
      go_upto_region 8 with fail
      refine region_calm 19 (by kernel_rfl) (by kernel_rfl) ?_
      simp only [List.take_succ_cons, List.take_zero, List.drop_succ_cons, List.drop_zero]
      repeat (first | (refine calm_fresh ?_ ?_ (fun wc hE => ?_) ?_; (decide); rfl; (focus (go_simp; done)); go_simp) | (refine calm_value ?_ ?_ ?_; (decide); (first | rfl | (focus (go_simp; done))); apply Exists.intro; refine ⟨fun wc hE => ?_, ?_⟩; (go_simp; exact rfl); go_simp) | (refine calm_call ?_ ?_ ?_; (decide); (first | rfl | (focus (go_simp; done))); apply Exists.intro; refine ⟨fun wc hE => ?_, ?_⟩; (go_simp; (first | (with_reducible exact calm_enter (C8.out _)))); go_simp) | (refine calm_skip ?_ ?_ ?_; (decide); (focus (go_simp; done)); go_simp))
      refine calm_nil ?_
      intro wx hx
      have i4 := hx.kept i4
      have g18 := kept2 hx g18
      have HB := Lib.hid (HB.out.trans hx)
      have PP := Lib.hid (PP.out.ext hx)
      clear hx k1 k2 k3 ma mb
      go_wp2
      try refine bodyPost_end (results_none rfl _ _ _) rfl ?_
      refine HSP.out vS2 _ ?_ (HB.out.setCell PP.out.hg _)
      have := PP.out.at__ (M.at_ + 1)
      rw [show ((M.at_ + 1 : Nat) : Int) = (M.at_ : Int) + 1 by omega] at this
      rw [Hs.out]
      exact this
    · have Hs : Hid (stepM p ⟨8, a, b, c, n⟩ M = { M with at_ := n.toNat, steps := M.steps + 1, seen := M.seen ++ [⟨1, M.at_, 0⟩] }) := Lib.hid (by
        unfold stepM
        simp only
        rw [if_neg (by omega), if_pos trivial, if_pos hh])
      have C8 : ∀ W, Calls Try.prog 106 #[.int .i64 c, .int .i64 (rg M.regs a), .int .i64 (rg M.regs b)] W fun e w' => e = .returned (.bool true) ∧ Ext W w' := fun W => by
        have := numHolds_c c (rg M.regs a) (rg M.regs b) W
        rw [hh] at this
        exact this
      have C8 := Lib.hid C8
      clear hh
      go_upto_region 8 with fail
      refine region_calm 19 (by kernel_rfl) (by kernel_rfl) ?_
      simp only [List.take_succ_cons, List.take_zero, List.drop_succ_cons, List.drop_zero]
      repeat (first | (refine calm_fresh ?_ ?_ (fun wc hE => ?_) ?_; (decide); rfl; (focus (go_simp; done)); go_simp) | (refine calm_value ?_ ?_ ?_; (decide); (first | rfl | (focus (go_simp; done))); apply Exists.intro; refine ⟨fun wc hE => ?_, ?_⟩; (go_simp; exact rfl); go_simp) | (refine calm_call ?_ ?_ ?_; (decide); (first | rfl | (focus (go_simp; done))); apply Exists.intro; refine ⟨fun wc hE => ?_, ?_⟩; (go_simp; (first | (with_reducible exact calm_enter (C8.out _)))); go_simp) | (refine calm_skip ?_ ?_ ?_; (decide); (focus (go_simp; done)); go_simp))
      refine calm_nil ?_
      intro wx hx
      have i4 := hx.kept i4
      have g18 := kept2 hx g18
      have HB := Lib.hid (HB.out.trans hx)
      have PP := Lib.hid (PP.out.ext hx)
      clear hx k1 k2 k3 ma mb
      go_wp2
      try refine bodyPost_end (results_none rfl _ _ _) rfl ?_
      refine HSP.out vS2 _ ?_ (HB.out.setCell PP.out.hg _)
      have := PP.out.at__ (n.toNat)
      rw [← Hn.out] at this
      rw [Hs.out]
      exact this
  by_cases h9 : op = 9
  · subst h9
    have ha := (ins_regs Hiok.out).2.2.2.2.2.2.1 rfl
    simp only at ha
    obtain ⟨a0, a1⟩ := okIn_iff.1 ha
    obtain ⟨ra, -⟩ := Hreg.out a ha
    have hixr := index_arr
    have Hs : Hid (stepM p ⟨9, a, b, c, n⟩ M = { M with at_ := M.at_ + 1, steps := M.steps + 1, seen := M.seen ++ [⟨1, M.at_, 0⟩], fin := 1, value := rg M.regs a }) := Lib.hid rfl
    clear i2 i3 i4
    go_upto_region 11 with fail
    go_region
    go_wp2
    try refine bodyPost_end (results_none rfl _ _ _) rfl ?_
    refine HSP.out vS2 _ ?_ (Ext.drew (((HB.out.setCell PP.out.hg _).setCell PP.out.hg _).setCell PP.out.hg _))
    have := (((PP.out.fin_ 1).value_ (rg M.regs a)).at__ (M.at_ + 1)).ext (Ext.drew (Ext.refl _))
    rw [show ((M.at_ + 1 : Nat) : Int) = (M.at_ : Int) + 1 by omega] at this
    rw [Hs.out]
    exact this
  by_cases hw : op = 4 ∨ op = 6
  · have Hw : Hid (op = 3 ∨ op = 4 ∨ op = 5 ∨ op = 6) := Lib.hid (by omega)
    have hb7 : (op == (7 : Int)) = false := by simp; omega
    have hb8 : (op == (8 : Int)) = false := by simp; omega
    have hb9 : (op == (9 : Int)) = false := by simp; omega
    have CP := puts_c ⟨op, a, b, c, n⟩ w3
    rw [show isPut ⟨op, a, b, c, n⟩ = true by unfold isPut; simp only; rcases hw with h | h <;> simp [h]] at CP
    simp only [insV] at CP
    go_wp2_with fail
    (with_reducible refine CP.mono ?_)
    clear CP
    rintro e w4 ⟨rfl, hx⟩
    clear g2 g3 Hreg
    have HB := Lib.hid (HB.out.trans hx)
    have PP := Lib.hid (PP.out.ext hx)
    have i0 := hx.kept i0
    have i1 := hx.kept i1
    have i2 := hx.kept i2
    have i3 := hx.kept i3
    have i4 := hx.kept i4
    have g18 := kept2 hx g18
    clear hx
    go_wp2_with fail
    have CW := word_c p ⟨op, a, b, c, n⟩ Hw.out Hiok.out Hr.out (Hmok.out.same (M' := { M with steps := M.steps + 1, seen := M.seen ++ [⟨1, M.at_, 0⟩] }) rfl rfl) (by simp; omega) w4 (HR.out _ HB.out) PP.out
    unfold WordPost at CW
    simp only [insV] at CW
    (with_reducible refine CW.mono ?_)
    clear CW
    rintro e w6 hpost
    cases hin : insideB p ⟨op, a, b, c, n⟩ (idxOf M.regs ⟨op, a, b, c, n⟩)
    · have hpost : e = .returned (.bool false) ∧ Ext w4 w6 := by
        rcases hpost with ⟨h1, -⟩ | ⟨-, h2⟩
        · try simp only at h1
          rw [hin] at h1; cases h1
        · exact h2
      obtain ⟨rfl, hx⟩ := hpost
      have Hs := Lib.hid (step_fault (M := M) Hw.out hin)
      have HB := Lib.hid (HB.out.trans hx)
      have PP := Lib.hid (PP.out.ext hx)
      obtain ⟨-, -, g2, -, -, -, -, -, g18, -⟩ := PP.out.cells
      have hgl := PP.out.box.lt
      simp only at g2 g18
      clear hx hin
      go_wp2
      try refine bodyPost_end (results_none rfl _ _ _) rfl ?_
      refine HSP.out vS2 _ ?_ ((HB.out.setCell PP.out.hg _).setCell PP.out.hg _)
      have := (PP.out.fin_ 2).at__ (M.at_ + 1)
      rw [show ((M.at_ + 1 : Nat) : Int) = (M.at_ : Int) + 1 by omega] at this
      rw [Hs.out]
      exact this
    · have hpost : e = .returned (.bool true) ∧ ∃ vS', MSt w6 wB.heap.size g vR (.slice oc p.code.length capc) vM vB vS' vW (basesOf p) (wordM p ⟨op, a, b, c, n⟩ { M with steps := M.steps + 1, seen := M.seen ++ [⟨1, M.at_, 0⟩] }) ∧ Below wB.heap.size w4 w6 := by
        rcases hpost with ⟨-, h2⟩ | ⟨h1, -⟩
        · exact h2
        · try simp only at h1
          rw [hin] at h1; cases h1
      obtain ⟨rfl, vS3, P5, hbb⟩ := hpost
      have Hs := Lib.hid (step_word (M := M) Hw.out hin)
      have HB : Hid (Ext wB w6) := Lib.hid (Below.trans HB.out hbb)
      have PP := Lib.hid P5
      obtain ⟨-, -, g2, -, -, -, -, -, g18, -⟩ := P5.cells
      have hgl := P5.box.lt
      clear P5 hbb hin
      generalize wordM p ⟨op, a, b, c, n⟩ { M with steps := M.steps + 1, seen := M.seen ++ [⟨1, M.at_, 0⟩] } = MW at *
      go_wp2
      try refine bodyPost_end (results_none rfl _ _ _) rfl ?_
      refine HSP.out vS3 _ ?_ (HB.out.setCell PP.out.hg _)
      have := PP.out.at__ (M.at_ + 1)
      rw [show ((M.at_ + 1 : Nat) : Int) = (M.at_ : Int) + 1 by omega] at this
      rw [Hs.out]
      exact this
  by_cases hw : op = 3 ∨ op = 5
  · have Hw : Hid (op = 3 ∨ op = 4 ∨ op = 5 ∨ op = 6) := Lib.hid (by omega)
    have hb7 : (op == (7 : Int)) = false := by simp; omega
    have hb8 : (op == (8 : Int)) = false := by simp; omega
    have hb9 : (op == (9 : Int)) = false := by simp; omega
    have CP := puts_c ⟨op, a, b, c, n⟩ w3
    rw [show isPut ⟨op, a, b, c, n⟩ = false by unfold isPut; simp only; simp; omega] at CP
    simp only [insV] at CP
    go_wp2_with fail
    (with_reducible refine CP.mono ?_)
    clear CP
    rintro e w4 ⟨rfl, hx⟩
    clear g2 g3 Hreg
    have HB := Lib.hid (HB.out.trans hx)
    have PP := Lib.hid (PP.out.ext hx)
    have i0 := hx.kept i0
    have i1 := hx.kept i1
    have i2 := hx.kept i2
    have i3 := hx.kept i3
    have i4 := hx.kept i4
    have g18 := kept2 hx g18
    clear hx
    go_wp2_with fail
    have CT := takes_c ⟨op, a, b, c, n⟩ w4
    rw [show isTake ⟨op, a, b, c, n⟩ = true by unfold isTake; simp only; rcases hw with h | h <;> simp [h]] at CT
    simp only [insV] at CT
    (with_reducible refine CT.mono ?_)
    clear CT
    rintro e w5 ⟨rfl, hx⟩
    have HB := Lib.hid (HB.out.trans hx)
    have PP := Lib.hid (PP.out.ext hx)
    have i0 := hx.kept i0
    have i1 := hx.kept i1
    have i2 := hx.kept i2
    have i3 := hx.kept i3
    have i4 := hx.kept i4
    have g18 := kept2 hx g18
    clear hx
    go_wp2_with fail
    have CW := word_c p ⟨op, a, b, c, n⟩ Hw.out Hiok.out Hr.out (Hmok.out.same (M' := { M with steps := M.steps + 1, seen := M.seen ++ [⟨1, M.at_, 0⟩] }) rfl rfl) (by simp; omega) w5 (HR.out _ HB.out) PP.out
    unfold WordPost at CW
    simp only [insV] at CW
    (with_reducible refine CW.mono ?_)
    clear CW
    rintro e w6 hpost
    cases hin : insideB p ⟨op, a, b, c, n⟩ (idxOf M.regs ⟨op, a, b, c, n⟩)
    · have hpost : e = .returned (.bool false) ∧ Ext w5 w6 := by
        rcases hpost with ⟨h1, -⟩ | ⟨-, h2⟩
        · try simp only at h1
          rw [hin] at h1; cases h1
        · exact h2
      obtain ⟨rfl, hx⟩ := hpost
      have Hs := Lib.hid (step_fault (M := M) Hw.out hin)
      have HB := Lib.hid (HB.out.trans hx)
      have PP := Lib.hid (PP.out.ext hx)
      obtain ⟨-, -, g2, -, -, -, -, -, g18, -⟩ := PP.out.cells
      have hgl := PP.out.box.lt
      simp only at g2 g18
      clear hx hin
      go_wp2
      try refine bodyPost_end (results_none rfl _ _ _) rfl ?_
      refine HSP.out vS2 _ ?_ ((HB.out.setCell PP.out.hg _).setCell PP.out.hg _)
      have := (PP.out.fin_ 2).at__ (M.at_ + 1)
      rw [show ((M.at_ + 1 : Nat) : Int) = (M.at_ : Int) + 1 by omega] at this
      rw [Hs.out]
      exact this
    · have hpost : e = .returned (.bool true) ∧ ∃ vS', MSt w6 wB.heap.size g vR (.slice oc p.code.length capc) vM vB vS' vW (basesOf p) (wordM p ⟨op, a, b, c, n⟩ { M with steps := M.steps + 1, seen := M.seen ++ [⟨1, M.at_, 0⟩] }) ∧ Below wB.heap.size w5 w6 := by
        rcases hpost with ⟨-, h2⟩ | ⟨h1, -⟩
        · exact h2
        · try simp only at h1
          rw [hin] at h1; cases h1
      obtain ⟨rfl, vS3, P5, hbb⟩ := hpost
      have Hs := Lib.hid (step_word (M := M) Hw.out hin)
      have HB : Hid (Ext wB w6) := Lib.hid (Below.trans HB.out hbb)
      have PP := Lib.hid P5
      obtain ⟨-, -, g2, -, -, -, -, -, g18, -⟩ := P5.cells
      have hgl := P5.box.lt
      clear P5 hbb hin
      generalize wordM p ⟨op, a, b, c, n⟩ { M with steps := M.steps + 1, seen := M.seen ++ [⟨1, M.at_, 0⟩] } = MW at *
      go_wp2
      try refine bodyPost_end (results_none rfl _ _ _) rfl ?_
      refine HSP.out vS3 _ ?_ (HB.out.setCell PP.out.hg _)
      have := PP.out.at__ (M.at_ + 1)
      rw [show ((M.at_ + 1 : Nat) : Int) = (M.at_ : Int) + 1 by omega] at this
      rw [Hs.out]
      exact this
  have hplain : op ≠ 3 ∧ op ≠ 4 ∧ op ≠ 5 ∧ op ≠ 6 ∧ op ≠ 7 ∧ op ≠ 8 ∧ op ≠ 9 := ⟨by omega, by omega, by omega, by omega, h7, h8, h9⟩
  have hb7 : (op == (7 : Int)) = false := by simp; omega
  have hb8 : (op == (8 : Int)) = false := by simp; omega
  have hb9 : (op == (9 : Int)) = false := by simp; omega
  have Hs := Lib.hid (step_plain (p := p) (M := M) (i := ⟨op, a, b, c, n⟩) hplain)
  have Hpl := Lib.hid hplain
  have CP := puts_c ⟨op, a, b, c, n⟩ w3
  rw [show isPut ⟨op, a, b, c, n⟩ = false by unfold isPut; simp only; simp; omega] at CP
  simp only [insV] at CP
  clear hplain
  go_wp2_with fail
  (with_reducible refine CP.mono ?_)
  clear CP
  rintro e w4 ⟨rfl, hx⟩
  clear g2 g3 Hreg
  have HB := Lib.hid (HB.out.trans hx)
  have PP := Lib.hid (PP.out.ext hx)
  have i0 := hx.kept i0
  have i1 := hx.kept i1
  have i2 := hx.kept i2
  have i3 := hx.kept i3
  have i4 := hx.kept i4
  have g18 := kept2 hx g18
  clear hx
  go_wp2_with fail
  have CT := takes_c ⟨op, a, b, c, n⟩ w4
  rw [show isTake ⟨op, a, b, c, n⟩ = false by unfold isTake; simp only; simp; omega] at CT
  simp only [insV] at CT
  (with_reducible refine CT.mono ?_)
  clear CT
  rintro e w5 ⟨rfl, hx⟩
  have HB := Lib.hid (HB.out.trans hx)
  have PP := Lib.hid (PP.out.ext hx)
  have i0 := hx.kept i0
  have i1 := hx.kept i1
  have i2 := hx.kept i2
  have i3 := hx.kept i3
  have i4 := hx.kept i4
  have g18 := kept2 hx g18
  clear hx
  go_wp2_with fail
  have CQ := plain_c (M := { M with steps := M.steps + 1, seen := M.seen ++ [⟨1, M.at_, 0⟩] }) p ⟨op, a, b, c, n⟩ Hmok.out.r64 Hiok.out Hpl.out (by simp; omega) w5 PP.out
  unfold PlainPost at CQ
  simp only [insV] at CQ
  (with_reducible refine CQ.mono ?_)
  clear CQ
  rintro e w6 ⟨rfl, vS3, P5, T5, -⟩
  have HB : Hid (Ext wB w6) := Lib.hid (Below.trans HB.out (PP.out.below T5))
  have PP := Lib.hid P5
  obtain ⟨-, -, -, -, -, -, -, -, g18, -⟩ := P5.cells
  have hgl := P5.box.lt
  simp only at g18
  clear P5 T5
  go_wp2
  try refine bodyPost_end (results_none rfl _ _ _) rfl ?_
  refine HSP.out vS3 _ ?_ (HB.out.setCell PP.out.hg _)
  have := PP.out.at__ (M.at_ + 1)
  rw [show ((M.at_ + 1 : Nat) : Int) = (M.at_ : Int) + 1 by omega] at this
  rw [Hs.out]
  exact this
end Go.Proofs.Yteiknefajlocoaa
