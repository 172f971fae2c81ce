/- Walks of slices.Clone, and of the program's Begin. -/
import Derived.Test.YteiknefajlocoaaSeq4
import Derived.Test.YteiknefajlocoaaFloat
namespace Go.Proofs.Yteiknefajlocoaa
open Go.ChangeShapes Go.WideShapes Go.ChangeAt Go.RowKit
set_option linter.unusedVariables false
set_option linter.unusedSimpArgs false

theorem sl_nil (ad : Addr) (n cap : Nat) (w : World) : (binOp .eql 71 (.slice (some ad) n cap) (.slice none 0 0)).run Try.prog w = .ok (.bool false) w := by
  first | (kernel_rfl; done) | (go_simp; done) | (trace_state; sorry)
theorem nil_nil (w : World) : (binOp .eql 71 (.slice none 0 0) (.slice none 0 0)).run Try.prog w = .ok (.bool true) w := by
  first | (kernel_rfl; done) | (go_simp; done) | (trace_state; sorry)
theorem infoInt : (Try.prog.info? 3).map (fun i => (i.zero, i.size, i.bytes)) = some (some (.int .i64 0), 1, 8) := by kernel_rfl
set_option maxRecDepth 100000 in
theorem clone_c {w : World} {ad : Addr} {n cap : Nat} {news : List Value} (hs : Src w 1 (some ad) n news) (hn : n ≤ 1000000) :
    Calls Try.prog 111 #[.slice (some ad) n cap] w fun e w' => ∃ v', e = .returned v' ∧ w'.ownsRow w.heap.size 2 1 v' n news ∧ Ext w w' := by
  obtain ⟨i0, hi0, hz0, hz1, hz2⟩ := info_parts infoI64
  have Hs := Lib.hid hs
  have hnil := sl_nil ad n cap
  clear hs
  go_enter Try.func111, Try.ntmps111
  go_wp2_with (at_builtin; refine wpList_append_src _ rfl _ _ 71 rfl w.heap.size 2 i0 _ 1 8 Try.underlying71 hi0 hz0 hz1 hz2 rfl (by decide) _ 0 [] rfl ?c0 (some ad) n cap news rfl ?c1 ?c3 ?c4 ?c5 ?_)
  case c0 =>
    have h := World.ownsRow_lit (base := w.heap.size) (e := 2) (size := 1) w #[] 0 (Nat.le_refl _) (by decide) rfl
    simpa [Act.eval] using h
  case c1 => exact Hs.out.ext ((Ext.refl _).alloc _)
  case c3 => unfold maxLen; omega
  case c4 => omega
  case c5 => simp
  intro v1 w1 hown hgrow hat
  have X : Ext w w1 := ((Ext.refl w).alloc _).grown hgrow (by
    intro k hk
    simp [Act.eval, Value.ownBlock] at hk
    omega)
  have Hown := Lib.hid hown
  have X := Lib.hid X
  clear hown hgrow hat
  go_wp2
  go_ret
  exact ⟨_, rfl, by simpa using Hown.out, X.out⟩
set_option maxRecDepth 100000 in
theorem clone_nil (w : World) (cap : Nat) :
    Calls Try.prog 111 #[.slice none 0 0] w fun e w' => e = .returned (.slice none 0 0) ∧ w = w' := by
  have hnil := nil_nil
  go_enter Try.func111, Try.ntmps111
  go_wp2
  go_ret
  exact ⟨rfl, rfl⟩

section
variable {w w' : World} {B g : Nat} {vR vC vM vB vS vW : Value} {bases : List Int} {M : Mach}
/-- a base more -/
theorem MSt.bases_ (h : MSt w B g vR vC vM vB vS vW bases M) {vB' : Value} {bs : List Int} (hg : w.grownBy w' vB.ownBlock) (ho : w'.ownsRow B 3 1 vB' bs.length (bs.map (Value.int .i64))) :
    MSt (w'.setCell ⟨g, 19, none⟩ vB') B g vR vC vM vB' vS vW bs M := by
  have hb := h.box.grown hg h.gb
  have hne : some g ≠ vB'.ownBlock := own_ne ho hb (by decide)
  have hw := own_grown h.ws hg (fun k hk he => own_ne2 h.bs h.ws (by decide) k hk he)
  have hs := own_grown h.sn hg (fun k hk he => own_ne2 h.bs h.sn (by decide) k hk he)
  exact ⟨by rw [← mach_set_bases h.len (u := vB')]; exact hb.set_ 19 vB', own_far hs h.gs _, own_far hw h.gw _, own_far ho hne _, h.len, h.hg⟩
/-- words more -/
theorem MSt.words_ (h : MSt w B g vR vC vM vB vS vW bases M) {vW' : Value} {ws : List Int} (hg : w.grownBy w' vW.ownBlock) (ho : w'.ownsRow B 2 1 vW' ws.length (ws.map (Value.int .i64))) :
    MSt (w'.setCell ⟨g, 17, none⟩ vW') B g vR vC vM vB vS vW' bases { M with words := ws } := by
  have hb := h.box.grown hg h.gw
  have hne : some g ≠ vW'.ownBlock := own_ne ho hb (by decide)
  have hbs := own_grown h.bs hg (fun k hk he => own_ne2 h.ws h.bs (by decide) k hk he)
  have hs := own_grown h.sn hg (fun k hk he => own_ne2 h.ws h.sn (by decide) k hk he)
  exact ⟨by rw [← mach_set_words h.len (u := vW')]; exact hb.set_ 17 vW', own_far hs h.gs _, own_far ho hne _, own_far hbs h.gb _, h.len, h.hg⟩
end
def BeginPost (p : LProg) (m : List (List Int)) (vR vC : Value) (w : World) (e : Ending) (w' : World) : Prop :=
  ∃ g vB vW, e = .returned (.pointer (some ⟨g, 0, none⟩)) ∧ MSt w' w.heap.size g vR vC (.slice none 0 0) vB (.slice none 0 0) vW (basesOf p) (start m.flatten) ∧ Ext w w'
def bsTo (p : LProg) (j : Nat) : List Int := (List.range j).map fun k => (baseOf p k : Int)
set_option maxRecDepth 100000 in
set_option maxHeartbeats 4000000 in
theorem begin_c (p : LProg) (m : List (List Int)) (vR vC vm : Value) (w : World) (hm : MemAt w vm m) (hf : fitsOk p m = true) (hr : regsOk p.regs = true) :
    Calls Try.prog 70 #[.agg #[vR, vC], vm] w (BeginPost p m vR vC w) := by
  obtain ⟨hl1, hl2⟩ := fits_len hf
  have hlen := regsOk_len hr
  have htt := total_le hr
  have Hft := Lib.hid (flat_take hf)
  obtain ⟨oa, cap, b, o, rfl, hc1, hc2, vs0, hrow, hin⟩ := hm
  have hix := index_mem' (cap := cap) hrow.at_
  have Hrow := Lib.hid hrow
  have Hin := Lib.hid hin
  have Hl2 := Lib.hid hl2
  have Hr := Lib.hid hr
  have Hl1 := Lib.hid hl1
  have hm6 : m.length ≤ 6 := by omega
  obtain ⟨i0, hi0, hz0, hz1, hz2⟩ := info_parts infoI64
  obtain ⟨j0, hj0, hy0, hy1, hy2⟩ := info_parts infoInt
  clear hrow hin hc1 hc2 hl2 hr hl1 hlen
  go_enter Try.func70, Try.ntmps70
  go_wp2_with fail
  obtain ⟨W, gp, hg, hW, hx, bP, bM⟩ := blocks2 w #[vR, vC] #[vR, vC, .int .i64 0, .int .i64 0, .int .i64 0, .slice none 0 0, .slice none 0 0, .int .i64 0, .int .i64 0, .int .i64 0, .int .i64 0, .int .i64 0, .int .i64 0, .int .i64 0, .int .i64 0, .int .i64 0, .int .i64 0, .slice none 0 0, .int .i64 0, .slice none 0 0] 25 110
  rw [hW, hg]
  have X := Lib.hid hx
  have P0 : MSt W w.heap.size (gp + 1) vR vC (.slice none 0 0) (.slice none 0 0) (.slice none 0 0) (.slice none 0 0) (bsTo p 0) { start [] with words := (m.take 0).flatten } :=
    ⟨bM, World.ownsRow_nil _ _ _ _, World.ownsRow_nil _ _ _ _, World.ownsRow_nil _ _ _ _, rfl, by omega⟩
  clear hW hg hx bP bM
  generalize gp + 1 = g at *
  go_loopw [13] (fun i wr => ∃ (j : Nat) (vB vW : Value), j ≤ m.length ∧ i = .int .i64 j ∧ MSt wr w.heap.size g vR vC (.slice none 0 0) vB (.slice none 0 0) vW (bsTo p j) { start [] with words := (m.take j).flatten } ∧ Ext w wr) (fun i _ => m.length - (intOf i).toNat)
  case atStart => exact ⟨0, _, _, by omega, rfl, P0, X.out⟩
  case round =>
    obtain ⟨j, vB, vW, hj, rfl, P, hE⟩ := hrel
    have X := Lib.hid hE
    have PP := Lib.hid P
    have hgl := P.box.lt
    have hwl : ((m.take j).flatten).length = baseOf p j := Hft.out j (by rw [← Hl1.out]; omega)
    have hbl := base_le p j
    clear hE P
    by_cases hlt : j < m.length
    · have e0 := (Hrow.out.ext X.out).one j hlt
      have h1 := Hin.out j hlt
      have hlj := Hl2.out j (by rw [← Hl1.out]; omega)
      have hw6 : wordsOf (p.regs.getD j default) ≤ 64 := words_le _ (regsOk_log Hr.out _ (getD_mem (by rw [← Hl1.out]; omega))).2
      have Hnext : Hid ((m.take (j + 1)).flatten = (m.take j).flatten ++ m.getD j default) := Lib.hid (by
        rw [List.take_succ_eq_append_getElem hlt, List.flatten_append]
        simp [hlt])
      have Hbs : Hid (bsTo p (j + 1) = bsTo p j ++ [(baseOf p j : Int)]) := Lib.hid (by simp [bsTo, List.range_succ])
      have hbsl : (bsTo p j).length = j := by simp [bsTo]
      generalize m.getD j default = l at *
      generalize vs0 j = vl at *
      obtain ⟨-, ol, lcap, lb, lo, rfl, hl3, hl4, hlr⟩ := h1
      have Hlr := Lib.hid hlr
      rw [hlj] at e0
      generalize wordsOf (p.regs.getD j default) = L at *
      obtain ⟨-, -, -, -, -, -, -, g17, -, g19⟩ := PP.out.cells
      obtain ⟨ob, obc, rfl⟩ := own_slice PP.out.bs
      obtain ⟨ow, owc, rfl⟩ := own_slice PP.out.ws
      have Hwl := Lib.hid hwl
      rw [hbsl] at g19
      simp only [hwl] at g17
      clear hlr hl3 hl4
      go_upto_region 5 with fail
      have k17 : ∀ W, Ext wr W → W.cell? ⟨g, 17, none⟩ = some (.slice ow (baseOf p j) owc) := fun _ h => h.kept g17.1
      have k19 : ∀ W, Ext wr W → W.cell? ⟨g, 19, none⟩ = some (.slice ob j obc) := fun _ h => h.kept g19.1
      refine region_float [11, 12, 13, 14, 15] 1 (by kernel_rfl) (by kernel_rfl) ?_
      repeat (first | (refine cw_heavy ?_ ?_; (decide)) | (refine cw_value ?_ ?_ ?_; (decide); (first | rfl | (focus (go_simp; done))); apply Exists.intro; refine ⟨fun wc hE => ?_, ?_⟩; (go_simp; exact rfl); go_simp) | (refine cw_skip ?_ ?_ ?_; (decide); (focus (go_simp; done)); go_simp))
      refine cw_nil ?_
      intro w2 hx
      have X2 := Lib.hid hx
      clear k17 k19
      refine wpF_soft rfl ?_
      go_wp2
      have PB := PP.out.ext (X2.out.alloc (.cells #[.int .i64 (baseOf p j : Int)] 3))
      have X3 := Lib.hid (X.out.trans (X2.out.alloc (.cells #[.int .i64 (baseOf p j : Int)] 3)))
      refine ⟨X2.out.alloc _, ?_⟩
      refine wpF_hard (heavies_cons rfl (heavies_cons rfl (heavies_cons rfl (heavies_cons rfl (heavies_nil))))) ?_
      have hbo := PB.bs
      rw [hbsl] at hbo
      refine wpList_append_src _ rfl _ _ 51 rfl w.heap.size 3 j0 _ 1 8 Try.underlying51 hj0 hy0 hy1 hy2 rfl (by decide) _ _ _ rfl hbo (some ⟨w2.heap.size, 0, none⟩) 1 1 [.int .i64 (baseOf p j : Int)] rfl ?c1 ?c3 ?c4 ?c5 ?_
      case c1 => exact src_new (size := 1) (Blk.new w2 3 #[.int .i64 (baseOf p j : Int)]) rfl (by simp [Value.oneCell'])
      case c3 => unfold maxLen; omega
      case c4 => omega
      case c5 => exact X3.out.size
      intro v1 w3 hown hgrow hat
      clear hat
      obtain ⟨o3, c3, rfl⟩ := own_slice hown
      have hgrow : (w2.alloc (.cells #[.int .i64 (baseOf p j : Int)] 3)).grownBy w3 (Value.slice ob (bsTo p j).length obc).ownBlock := by
        rw [hbsl]; exact hgrow
      have hb3 := PB.box.grown hgrow PB.gb
      have p19 : w3.cell? ⟨g, 19, none⟩ = some (.slice ob j obc) ∧ w3.frozen? ⟨g, 19, none⟩ = false := ⟨by rw [hb3.cell]; simp [machL, start, hbsl], hb3.frozen 19⟩
      have p17 : w3.cell? ⟨g, 17, none⟩ = some (.slice ow (baseOf p j) owc) ∧ w3.frozen? ⟨g, 17, none⟩ = false := ⟨by rw [hb3.cell]; simp [machL, start, Hwl.out], hb3.frozen 17⟩
      have P3 := PB.bases_ (bs := bsTo p j ++ [(baseOf p j : Int)]) (vB' := .slice o3 (j + 1) c3) hgrow (by simpa [hbsl] using hown)
      have X3 := Lib.hid (((X3.out.grown hgrow (own_base PB.bs))).setCell (p := ⟨g, 19, none⟩) PB.hg (.slice o3 (j + 1) c3))
      have hwo : (w3.setCell ⟨g, 19, none⟩ (.slice o3 (j + 1) c3)).ownsRow w.heap.size 2 1 (.slice ow (baseOf p j) owc) (baseOf p j) (((m.take j).flatten).map (Value.int .i64)) := by
        have := P3.ws
        simp only [Hwl.out] at this
        exact this
      have P3 := Lib.hid P3
      have Hsrc : Hid (Src (w3.setCell ⟨g, 19, none⟩ (.slice o3 (j + 1) c3)) 1 ol L (l.map (Value.int .i64))) := Lib.hid (by
        have := src_ints .i64 (Hlr.out.ext X3.out)
        rw [hlj] at this
        exact this)
      clear g17 g19 hb3 hown hgrow PB hbo
      have hg3 := P3.out.box.lt
      go_wp2_with (at_builtin; refine wpList_append_src _ rfl _ _ 71 rfl w.heap.size 2 i0 _ 1 8 Try.underlying71 hi0 hz0 hz1 hz2 rfl (by decide) _ _ _ rfl hwo ol L lcap (l.map (Value.int .i64)) rfl ?d1 ?d3 ?d4 ?d5 ?_)
      case d1 => exact Hsrc.out
      case d3 => unfold maxLen; omega
      case d4 => omega
      case d5 => exact X3.out.size
      intro v2 w4 hown2 hgrow2 hat2
      clear hat2
      obtain ⟨o4, c4, rfl⟩ := own_slice hown2
      have hgr : (w3.setCell ⟨g, 19, none⟩ (.slice o3 (j + 1) c3)).grownBy w4 (Value.slice ow ({ start [] with words := (m.take j).flatten } : Mach).words.length owc).ownBlock := by
        simp only [Hwl.out]; exact hgrow2
      have hb4 := P3.out.box.grown hgr P3.out.gw
      have q17 : w4.cell? ⟨g, 17, none⟩ = some (.slice ow (baseOf p j) owc) ∧ w4.frozen? ⟨g, 17, none⟩ = false := ⟨by rw [hb4.cell]; simp [machL, start, Hwl.out], hb4.frozen 17⟩
      have P4 := Lib.hid (P3.out.words_ (ws := (m.take j).flatten ++ l) (vW' := .slice o4 (baseOf p j + L) c4) hgr (by simpa [Hwl.out, hlj] using hown2))
      have X4 := Lib.hid ((X3.out.grown hgrow2 (own_base hwo)).setCell (p := ⟨g, 17, none⟩) P3.out.hg (.slice o4 (baseOf p j + L) c4))
      clear hb4 hgr hown2 hgrow2 hwo p17 p19
      go_wp2
      go_roundw
      case rel => exact ⟨j + 1, _, _, by omega, by go_num, by rw [Hbs.out, Hnext.out]; exact P4.out, X4.out⟩
      case measure => first | (simp [intOf]; done) | (simp [intOf]; omega)
    · have hje : j = m.length := by omega
      subst hje
      have hlt2 : decide ((m.length : Int) < (m.length : Int)) = false := by simp
      have HB : Hid (bsTo p m.length = basesOf p) := Lib.hid (by rw [Hl1.out]; rfl)
      have HF : Hid ((m.take m.length).flatten = m.flatten) := Lib.hid (by rw [List.take_length])
      go_wp2
      go_ret
      refine ⟨g, vB, vW, rfl, ?_, X.out⟩
      have := PP.out
      rw [HB.out, HF.out] at this
      exact this
end Go.Proofs.Yteiknefajlocoaa
