/- Walk of the program's word: a word taken or put. -/
import Derived.Test.YteiknefajlocoaaSeq2
namespace Go.Proofs.Yteiknefajlocoaa
open Go.ChangeShapes Go.WideShapes Go.ChangeAt Go.RowKit
set_option linter.unusedVariables false
set_option linter.unusedSimpArgs false

def basesOf (p : LProg) : List Int := (List.range p.regs.length).map fun k => (baseOf p k : Int)
theorem bases_len (p : LProg) : (basesOf p).length = p.regs.length := by simp [basesOf]
theorem bases_get (p : LProg) {c : Nat} (h : c < p.regs.length) : ((basesOf p).map (Value.int .i64))[c]? = some (.int .i64 (baseOf p c : Nat)) := by simp [basesOf, h]
theorem index_int0 (k n cap : Nat) (W : World) (i : Int) (h0 : 0 ≤ i) (h1 : i < n) :
    (Instr.indexAt 51 (.slice (some ⟨k, 0, none⟩) n cap) (.int .i64 i)).run Try.prog W = .ok (.pointer (some ⟨k, i.toNat, none⟩)) W := by
  have hs : (Try.prog.info? 3).map (·.size) = some 1 := by kernel_rfl
  simp [Instr.indexAt, run_underlying Try.underlying51, asIntOf, h0, h1]
  have := addr_add k 0 i.toNat
  simpa using this
/-- where a row of the call's own lies -/
theorem own_at {w : World} {B : Nat} {e : TypeId} {v : Value} {n : Nat} {xs : List Value} (h : w.ownsRow B e 1 v n xs) (hn : 0 < n) : ∃ k cap, v = .slice (some ⟨k, 0, none⟩) n cap ∧ B ≤ k ∧ ∀ j x, j < n → xs[j]? = some x → w.cell? ⟨k, j, none⟩ = some x ∧ w.frozen? ⟨k, j, none⟩ = false := by
  have h' := h
  rcases h.2 with ⟨-, h0⟩ | ⟨k, cap, cur, rfl, a1, a2, a3⟩
  · omega
  · exact ⟨k, cap, rfl, a1, fun j x hj hx => ⟨by rw [h'.cellAt j (by omega), hx], h'.frozenAt j⟩⟩
def wordM (p : LProg) (i : LIns) (M : Mach) : Mach :=
  let q := baseOf p i.c.toNat + (idxOf M.regs i).toNat
  if isPut i then { M with seen := M.seen ++ [⟨2, (q : Nat), putN i⟩], words := M.words.set q (rg M.regs i.a) }
  else { M with seen := M.seen ++ [⟨2, (q : Nat), putN i⟩], regs := rset M.regs i.a (M.words.getD q 0) }
def WordPost (p : LProg) (w : World) (B g : Nat) (vR vC vM vB vW : Value) (bases : List Int) (M : Mach) (i : LIns) (e : Ending) (w' : World) : Prop :=
  (insideB p i (idxOf M.regs i) = true ∧ e = .returned (.bool true) ∧ ∃ vS', MSt w' B g vR vC vM vB vS' vW bases (wordM p i M) ∧ Below B w w') ∨ (insideB p i (idxOf M.regs i) = false ∧ e = .returned (.bool false) ∧ Ext w w')
theorem MSt.below {w w' : World} {B g : Nat} {vR vC vM vB vS vW : Value} {bases : List Int} {M : Mach} (h : MSt w B g vR vC vM vB vS vW bases M) (ht : Turn (fun j => j = g ∨ vS.ownBlock = some j) w w') : Below B w w' :=
  ht.below h.size (by
    rintro j (rfl | e)
    · exact h.hg
    · exact own_base h.sn j e)
set_option maxRecDepth 100000 in
set_option maxHeartbeats 4000000 in
theorem word_c (p : LProg) (i : LIns) {B g : Nat} {vR vC vM vB vS vW : Value} {M : Mach} (hw : i.op = 3 ∨ i.op = 4 ∨ i.op = 5 ∨ i.op = 6) (hi : insOk p 10 i = true) (hr : regsOk p.regs = true) (hok : MOk p M) (hsn : M.seen.length ≤ 1000000) (w : World) (hR : RegsAt w vR p.regs) (h : MSt w B g vR vC vM vB vS vW (basesOf p) M) :
    Calls Try.prog 109 #[.pointer (some ⟨g, 0, none⟩), insV i] w (WordPost p w B g vR vC vM vB vW (basesOf p) M i) := by
  obtain ⟨ha, hb, hc0, hc1⟩ := word_parts hi hw
  have hbe := base_end p i.c.toNat hc1
  have htt := total_le hr
  have hlen := regsOk_len hr
  have hw6 : wordsOf (p.regs.getD i.c.toNat default) ≤ 64 := words_le _ (regsOk_log hr _ (getD_mem hc1)).2
  have H := Lib.hid h
  have HR := Lib.hid hR
  have Hr := Lib.hid hr
  have Hok := Lib.hid hok
  have Ha := Lib.hid ha
  have Hb := Lib.hid hb
  have Hc1 := Lib.hid hc1
  have hgl := h.box.lt
  have hwl := hok.wlen
  have Hput : Hid (putN i = if isPut i then 1 else 0) := Lib.hid rfl
  have HW : Hid (∀ w', insideB p i (idxOf M.regs i) = true → (∃ vS', MSt w' B g vR vC vM vB vS' vW (basesOf p) (wordM p i M) ∧ Below B w w') → WordPost p w B g vR vC vM vB vW (basesOf p) M i (.returned (.bool true)) w') := Lib.hid fun w' h1 h2 => .inl ⟨h1, rfl, h2⟩
  have HW2 : Hid (∀ w', insideB p i (idxOf M.regs i) = false → Ext w w' → WordPost p w B g vR vC vM vB vW (basesOf p) M i (.returned (.bool false)) w') := Lib.hid fun w' h1 h2 => .inr ⟨h1, rfl, h2⟩
  have HM : Hid (wordM p i M = if isPut i then { M with seen := M.seen ++ [⟨2, ((baseOf p i.c.toNat + (idxOf M.regs i).toNat : Nat) : Int), putN i⟩], words := M.words.set (baseOf p i.c.toNat + (idxOf M.regs i).toNat) (rg M.regs i.a) }
    else { M with seen := M.seen ++ [⟨2, ((baseOf p i.c.toNat + (idxOf M.regs i).toNat : Nat) : Int), putN i⟩], regs := rset M.regs i.a (M.words.getD (baseOf p i.c.toNat + (idxOf M.regs i).toNat) 0) }) := Lib.hid rfl
  generalize WordPost p w B g vR vC vM vB vW (basesOf p) M i = WP at *
  obtain ⟨op, a, b, c, n⟩ := i
  simp only at ha hb hc0 hc1 hbe hw6
  obtain ⟨a0, a1⟩ := okIn_iff.1 ha
  have CI := Lib.hid fun w' (hx : Ext w w') => index_c w' (h.ext hx) ⟨op, a, b, c, n⟩ hb
  have CP := Lib.hid fun w' => puts_c ⟨op, a, b, c, n⟩ w'
  simp only [insV] at CI CP
  have HIn : Hid (∀ x, insideB p ⟨op, a, b, c, n⟩ x = (decide (0 ≤ x) && decide (x < (wordsOf (p.regs.getD c.toNat default) : Nat)))) := Lib.hid fun x => rfl
  unfold insV
  simp only
  clear hok hi hr hR hw h
  go_enter Try.func109, Try.ntmps109
  go_wp2_with fail
  obtain ⟨w0, e, he, hW, hs0, hx0, c0, c1, c2, c3, c4⟩ := new5 w 70 (.int .i64 op) (.int .i64 a) (.int .i64 b) (.int .i64 c) (.int .i64 n)
  rw [hW, he]
  have X := Lib.hid hx0
  have hge : g ≠ e := by omega
  have hew : w.heap.size = e := he
  clear hW hs0 hx0
  (with_reducible refine (CI.out w0 X.out).mono ?_)
  clear CI
  rintro er w1 ⟨rfl, hx⟩
  generalize idxOf M.regs ⟨op, a, b, c, n⟩ = x at *
  have X := Lib.hid (X.out.trans hx)
  have c0 := hx.kept c0
  have c1 := hx.kept c1
  have c2 := hx.kept c2
  have c3 := hx.kept c3
  have c4 := hx.kept c4
  clear hx
  go_wp2_with fail
  have C := inside_c w1 (H.out.ext X.out) p (HR.out.ext X.out) Hr.out c x hc0 hc1
  have Hc0 := Lib.hid hc0
  rw [← HIn.out] at C
  have HIx := Lib.hid (HIn.out x)
  cases hin : insideB p ⟨op, a, b, c, n⟩ x
  · rw [hin] at C HIx HW2
    (with_reducible refine C.mono ?_)
    clear C
    rintro er w2 ⟨rfl, hx⟩
    have X := Lib.hid (X.out.trans hx)
    clear hx hin
    go_wp2
    exact HW2.out _ (by trivial) X.out
  rw [hin] at C HIx HW
  (with_reducible refine C.mono ?_)
  clear C
  rintro er w2 ⟨rfl, hx⟩
  have hi2 := HIx.out.symm
  simp only [Bool.and_eq_true, decide_eq_true_eq] at hi2
  obtain ⟨hx0, hx1⟩ := hi2
  have X := Lib.hid (X.out.trans hx)
  have c0 := hx.kept c0
  have c1 := hx.kept c1
  have c2 := hx.kept c2
  have c3 := hx.kept c3
  have c4 := hx.kept c4
  have P := H.out.ext X.out
  obtain ⟨-, -, -, -, -, -, -, g17, -, g19⟩ := P.cells
  obtain ⟨kw, capw, hvw, hkw, hws⟩ := own_at P.ws (show 0 < M.words.length by omega)
  obtain ⟨kb, capb, hvb, hkb, hbs⟩ := own_at P.bs (show 0 < (basesOf p).length by rw [bases_len]; omega)
  obtain ⟨b19, -⟩ := hbs c.toNat _ (by rw [bases_len]; omega) (bases_get p hc1)
  have P := Lib.hid P
  rw [bases_len] at hvb
  subst hvw
  subst hvb
  have hbb : (baseOf p c.toNat : Int) ≤ 384 := by omega
  have hcl : c < (p.regs.length : Int) := by omega
  have hql : baseOf p c.toNat + x.toNat < M.words.length := by omega
  have hixw : ∀ W, (Instr.indexAt 71 (.slice (some ⟨kw, 0, none⟩) M.words.length capw) (.int .i64 ((baseOf p c.toNat : Int) + x))).run Try.prog W = .ok (.pointer (some ⟨kw, baseOf p c.toNat + x.toNat, none⟩)) W := fun W => by
    have := index_row W kw M.words.length capw ((baseOf p c.toNat : Int) + x) (by omega) (by omega)
    rw [show ((baseOf p c.toNat : Int) + x).toNat = baseOf p c.toNat + x.toNat by omega] at this
    exact this
  have Hq : Hid ((baseOf p c.toNat : Int) + x = ((baseOf p c.toNat + x.toNat : Nat) : Int)) := Lib.hid (by omega)
  have Hql := Lib.hid hql
  have hwr : IntKind.i64.wrap ((baseOf p c.toNat : Int) + x) = (baseOf p c.toNat : Int) + x := Go.IntWalk.i64_in _ (by omega)
  clear hwl
  clear hx hin hws hbs HW2 HIx HIn HR
  generalize hbo : baseOf p c.toNat = bo at *
  have hixb := index_int0 kb p.regs.length capb
  have hixr := index_arr
  go_upto_region 4 with fail
  have k3 : ∀ W, Ext w2 W → W.cell? ⟨e, 3, none⟩ = some (.int .i64 c) := fun _ h => h.kept c3
  have k17 : ∀ W, Ext w2 W → W.cell? ⟨g, 17, none⟩ = some (.slice (some ⟨kw, 0, none⟩) M.words.length capw) := fun _ h => h.kept g17.1
  have k19 : ∀ W, Ext w2 W → W.cell? ⟨g, 19, none⟩ = some (.slice (some ⟨kb, 0, none⟩) p.regs.length capb) := fun _ h => h.kept g19.1
  have kb9 : ∀ W, Ext w2 W → W.cell? ⟨kb, c.toNat, none⟩ = some (.int .i64 (bo : Int)) := fun _ h => h.kept b19
  refine region_calm 17 (by kernel_rfl) (by kernel_rfl) ?_
  simp only [List.take_succ_cons, List.take_zero, List.drop_succ_cons, List.drop_zero]
  repeat (first | (refine calm_fresh ?_ ?_ (fun wc hE => ?_) ?_; (decide); rfl; (focus (go_simp; done)); go_simp) | (refine calm_value ?_ ?_ ?_; (decide); (first | rfl | (focus (go_simp; done))); apply Exists.intro; refine ⟨fun wc hE => ?_, ?_⟩; (go_simp; exact rfl); go_simp) | (refine calm_call ?_ ?_ ?_; (decide); (first | rfl | (focus (go_simp; done))); apply Exists.intro; refine ⟨fun wc hE => ?_, ?_⟩; (go_simp; (first | fail)); go_simp) | (refine calm_skip ?_ ?_ ?_; (decide); (focus (go_simp; done)); go_simp))
  refine calm_nil ?_
  intro w3 hx
  clear k3 k17 k19 kb9
  have X := Lib.hid (X.out.trans hx)
  have P := Lib.hid (P.out.ext hx)
  have c0 := hx.kept c0
  have c1 := hx.kept c1
  have c2 := hx.kept c2
  have c3 := hx.kept c3
  have c4 := hx.kept c4
  have g19 := hx.kept g19.1
  have b19 := hx.kept b19
  clear hx g17
  go_wp2_with fail
  cases hput : isPut ⟨op, a, b, c, n⟩
  · rw [hput] at CP
    simp only [hput, if_true, Bool.false_eq_true, if_false] at Hput HM
    rw [Hput.out] at HM
    clear Hput hput
    (with_reducible refine (CP.out w3).mono ?_)
    clear CP
    rintro er w4 ⟨rfl, hx⟩
    have X := Lib.hid (X.out.trans hx)
    have P := Lib.hid (P.out.ext hx)
    have c1 := hx.kept c1
    have c3 := hx.kept c3
    have g19 := hx.kept g19
    have b19 := hx.kept b19
    clear hx c0 c2 c4
    go_upto_region 8 with fail
    have k3 : ∀ W, Ext w4 W → W.cell? ⟨e, 3, none⟩ = some (.int .i64 c) := fun _ h => h.kept c3
    have k19 : ∀ W, Ext w4 W → W.cell? ⟨g, 19, none⟩ = some (.slice (some ⟨kb, 0, none⟩) p.regs.length capb) := fun _ h => h.kept g19
    have kb9 : ∀ W, Ext w4 W → W.cell? ⟨kb, c.toNat, none⟩ = some (.int .i64 (bo : Int)) := fun _ h => h.kept b19
    refine region_calm 12 (by kernel_rfl) (by kernel_rfl) ?_
    simp only [List.take_succ_cons, List.take_zero, List.drop_succ_cons, List.drop_zero]
    repeat (first | (refine calm_fresh ?_ ?_ (fun wc hE => ?_) ?_; (decide); rfl; (focus (go_simp; done)); go_simp) | (refine calm_value ?_ ?_ ?_; (decide); (first | rfl | (focus (go_simp; done))); apply Exists.intro; refine ⟨fun wc hE => ?_, ?_⟩; (go_simp; exact rfl); go_simp) | (refine calm_call ?_ ?_ ?_; (decide); (first | rfl | (focus (go_simp; done))); apply Exists.intro; refine ⟨fun wc hE => ?_, ?_⟩; (go_simp; (first | fail)); go_simp) | (refine calm_skip ?_ ?_ ?_; (decide); (focus (go_simp; done)); go_simp))
    refine calm_nil ?_
    intro w5 hx
    clear k3 k19 kb9
    have X := Lib.hid (X.out.trans hx)
    have P := Lib.hid (P.out.ext hx)
    have c1 := hx.kept c1
    clear hx c3 g19 b19
    go_wp2_with fail
    (with_reducible refine (see_c w5 P.out 2 ((bo : Int) + x) 0 hsn).mono ?_)
    rintro er w6 ⟨rfl, vS2, P2, T2, N2⟩
    have hne : ¬ (e = g ∨ vS.ownBlock = some e) := by
      rintro (h1 | h1)
      · omega
      · have := (H.out.sn.lt e h1).2
        omega
    have hel := block_lt c1
    simp only at hel
    have c1 : w6.cell? ⟨e, 1, none⟩ = some (.int .i64 a) := by rw [cell_turn T2 hel hne]; exact c1
    have HB := Lib.hid ((P.out.below T2))
    have hwq : w6.cell? ⟨kw, bo + x.toNat, none⟩ = some (.int .i64 (M.words.getD (bo + x.toNat) 0)) ∧ w6.frozen? ⟨kw, bo + x.toNat, none⟩ = false := by
      have h0 := P2.ws.cellAt (bo + x.toNat) (by simpa using Hql.out)
      have h1 := P2.ws.frozenAt (bo + x.toNat)
      refine ⟨?_, by simpa using h1⟩
      rw [h0]
      simp [Hql.out]
    obtain ⟨ra, fa⟩ := P2.reg Ha.out
    simp only at ra
    rw [Hq.out] at P2
    have P2 := Lib.hid P2
    have hgl := P2.out.box.lt
    have hkl := block_lt hwq.1
    simp only at hkl
    clear T2 N2 hne
    go_upto_region 11 with fail
    have k1 : ∀ W, Ext w6 W → W.cell? ⟨e, 1, none⟩ = some (.int .i64 a) := fun _ h => h.kept c1
    have ka : ∀ W, Ext w6 W → W.cell? ⟨kw, bo + x.toNat, none⟩ = some (.int .i64 (M.words.getD (bo + x.toNat) 0)) := fun _ h => h.kept hwq.1
    have rr : w6.cell? ⟨g, 7 + a.toNat, none⟩ = some (.int .i64 (rg M.regs a)) ∧ w6.frozen? ⟨g, 7 + a.toNat, none⟩ = false := ⟨ra, fa⟩
    generalize M.words.getD (bo + x.toNat) 0 = z at *
    refine region_calm 9 (by kernel_rfl) (by kernel_rfl) ?_
    simp only [List.take_succ_cons, List.take_zero, List.drop_succ_cons, List.drop_zero]
    repeat (first | (refine calm_fresh ?_ ?_ (fun wc hE => ?_) ?_; (decide); rfl; (focus (go_simp; done)); go_simp) | (refine calm_value ?_ ?_ ?_; (decide); (first | rfl | (focus (go_simp; done))); apply Exists.intro; refine ⟨fun wc hE => ?_, ?_⟩; (go_simp; exact rfl); go_simp) | (refine calm_call ?_ ?_ ?_; (decide); (first | rfl | (focus (go_simp; done))); apply Exists.intro; refine ⟨fun wc hE => ?_, ?_⟩; (go_simp; (first | fail)); go_simp) | (refine calm_skip ?_ ?_ ?_; (decide); (focus (go_simp; done)); go_simp))
    refine calm_nil ?_
    intro w7 hx
    have rr := kept2 hx rr
    have P2 := Lib.hid (P2.out.ext hx)
    have HB := Lib.hid ((HB.out.trans (Below.mono hx (Nat.le_trans P.out.size (HB.out.size)))))
    clear k1 ka hx ra fa c1 hwq
    go_wp2
    refine HW.out _ (by trivial) ⟨vS2, ?_, ?_⟩
    · have := P2.out.reg_ Ha.out z
      rw [HM.out]
      exact this
    · exact (Below.mono X.out H.out.size).trans (HB.out.setCell P2.out.hg _)
  · rw [hput] at CP
    simp only [hput, if_true, Bool.false_eq_true, if_false] at Hput HM
    rw [Hput.out] at HM
    clear Hput hput
    (with_reducible refine (CP.out w3).mono ?_)
    clear CP
    rintro er w4 ⟨rfl, hx⟩
    have X := Lib.hid (X.out.trans hx)
    have P := Lib.hid (P.out.ext hx)
    have c1 := hx.kept c1
    have c3 := hx.kept c3
    have g19 := hx.kept g19
    have b19 := hx.kept b19
    clear hx c0 c2 c4
    go_upto_region 8 with fail
    have k3 : ∀ W, Ext w4 W → W.cell? ⟨e, 3, none⟩ = some (.int .i64 c) := fun _ h => h.kept c3
    have k19 : ∀ W, Ext w4 W → W.cell? ⟨g, 19, none⟩ = some (.slice (some ⟨kb, 0, none⟩) p.regs.length capb) := fun _ h => h.kept g19
    have kb9 : ∀ W, Ext w4 W → W.cell? ⟨kb, c.toNat, none⟩ = some (.int .i64 (bo : Int)) := fun _ h => h.kept b19
    refine region_calm 12 (by kernel_rfl) (by kernel_rfl) ?_
    simp only [List.take_succ_cons, List.take_zero, List.drop_succ_cons, List.drop_zero]
    repeat (first | (refine calm_fresh ?_ ?_ (fun wc hE => ?_) ?_; (decide); rfl; (focus (go_simp; done)); go_simp) | (refine calm_value ?_ ?_ ?_; (decide); (first | rfl | (focus (go_simp; done))); apply Exists.intro; refine ⟨fun wc hE => ?_, ?_⟩; (go_simp; exact rfl); go_simp) | (refine calm_call ?_ ?_ ?_; (decide); (first | rfl | (focus (go_simp; done))); apply Exists.intro; refine ⟨fun wc hE => ?_, ?_⟩; (go_simp; (first | fail)); go_simp) | (refine calm_skip ?_ ?_ ?_; (decide); (focus (go_simp; done)); go_simp))
    refine calm_nil ?_
    intro w5 hx
    clear k3 k19 kb9
    have X := Lib.hid (X.out.trans hx)
    have P := Lib.hid (P.out.ext hx)
    have c1 := hx.kept c1
    clear hx c3 g19 b19
    go_wp2_with fail
    (with_reducible refine (see_c w5 P.out 2 ((bo : Int) + x) 1 hsn).mono ?_)
    rintro er w6 ⟨rfl, vS2, P2, T2, N2⟩
    have hne : ¬ (e = g ∨ vS.ownBlock = some e) := by
      rintro (h1 | h1)
      · omega
      · have := (H.out.sn.lt e h1).2
        omega
    have hel := block_lt c1
    simp only at hel
    have c1 : w6.cell? ⟨e, 1, none⟩ = some (.int .i64 a) := by rw [cell_turn T2 hel hne]; exact c1
    have HB := Lib.hid ((P.out.below T2))
    have hwq : w6.cell? ⟨kw, bo + x.toNat, none⟩ = some (.int .i64 (M.words.getD (bo + x.toNat) 0)) ∧ w6.frozen? ⟨kw, bo + x.toNat, none⟩ = false := by
      have h0 := P2.ws.cellAt (bo + x.toNat) (by simpa using Hql.out)
      have h1 := P2.ws.frozenAt (bo + x.toNat)
      refine ⟨?_, by simpa using h1⟩
      rw [h0]
      simp [Hql.out]
    obtain ⟨ra, fa⟩ := P2.reg Ha.out
    simp only at ra
    rw [Hq.out] at P2
    have P2 := Lib.hid P2
    have hgl := P2.out.box.lt
    have hkl := block_lt hwq.1
    simp only at hkl
    clear T2 N2 hne
    go_upto_region 10 with fail
    have k1 : ∀ W, Ext w6 W → W.cell? ⟨e, 1, none⟩ = some (.int .i64 a) := fun _ h => h.kept c1
    have ka : ∀ W, Ext w6 W → W.cell? ⟨g, 7 + a.toNat, none⟩ = some (.int .i64 (rg M.regs a)) := fun _ h => h.kept ra
    refine region_calm 9 (by kernel_rfl) (by kernel_rfl) ?_
    simp only [List.take_succ_cons, List.take_zero, List.drop_succ_cons, List.drop_zero]
    repeat (first | (refine calm_fresh ?_ ?_ (fun wc hE => ?_) ?_; (decide); rfl; (focus (go_simp; done)); go_simp) | (refine calm_value ?_ ?_ ?_; (decide); (first | rfl | (focus (go_simp; done))); apply Exists.intro; refine ⟨fun wc hE => ?_, ?_⟩; (go_simp; exact rfl); go_simp) | (refine calm_call ?_ ?_ ?_; (decide); (first | rfl | (focus (go_simp; done))); apply Exists.intro; refine ⟨fun wc hE => ?_, ?_⟩; (go_simp; (first | fail)); go_simp) | (refine calm_skip ?_ ?_ ?_; (decide); (focus (go_simp; done)); go_simp))
    refine calm_nil ?_
    intro w7 hx
    have hwq := kept2 hx hwq
    have P2 := Lib.hid (P2.out.ext hx)
    have HB := Lib.hid ((HB.out.trans (Below.mono hx (Nat.le_trans P.out.size (HB.out.size)))))
    clear k1 ka hx ra fa c1
    go_wp2
    refine HW.out _ (by trivial) ⟨vS2, ?_, ?_⟩
    · have := P2.out.word (x := bo + x.toNat) rfl (rg M.regs a)
      rw [HM.out]
      exact this
    · exact (Below.mono X.out H.out.size).trans (HB.out.setCell hkw _)
end Go.Proofs.Yteiknefajlocoaa
