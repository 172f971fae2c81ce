/- Laid together from: Ck7, Ref6d. -/
import Derived.Test.YteiknefajlocoaaCheckTellsB24
import Derived.Test.YteiknefajlocoaaCheckTellsB25
import Derived.Test.YteiknefajlocoaaCheckTellsB3
import Derived.Test.YteiknefajlocoaaCheckTellsB17
import Derived.Deep.OwnRows
import Derived.Test.YteiknefajlocoaaCheckTellsB23

/- Walk of check.Check. -/
namespace Go.Proofs.Yteiknefajlocoaa
open Go.ChangeShapes Go.WideShapes Go.ChangeAt Go.RowKit
set_option linter.unusedVariables false
set_option linter.unusedSimpArgs false

theorem ck_index (k n cap : Nat) (W : World) (i : Int) (h0 : 0 ≤ i) (h1 : i < n) :
    (Instr.indexAt 51 (.slice (some ⟨k, 0, none⟩) n cap) (.int .i64 i)).run Try.prog W = .ok (.pointer (some ⟨k, i.toNat, none⟩)) W := by
  have hs : (Try.prog.info? 3).map (·.size) = some 1 := by kernel_rfl
  simp [Instr.indexAt, run_underlying Try.underlying51, asIntOf, h0, h1]
  have := addr_add k 0 i.toNat
  simpa using this
theorem ck_own_at {w : World} {B : Nat} {e : TypeId} {v : Value} {n : Nat} {xs : List Value} (h : w.ownsRow B e 1 v n xs) (hn : 0 < n) : ∃ k cap, v = .slice (some ⟨k, 0, none⟩) n cap ∧ B ≤ k ∧ ∀ j x, j < n → xs[j]? = some x → w.cell? ⟨k, j, none⟩ = some x ∧ w.frozen? ⟨k, j, none⟩ = false := by
  have h' := h
  rcases h.2 with ⟨-, h0⟩ | ⟨k, cap, cur, rfl, a1, a2, a3⟩
  · omega
  · exact ⟨k, cap, rfl, a1, fun j x hj hx => ⟨by rw [h'.cellAt j (by omega), hx], h'.frozenAt j⟩⟩
theorem ck_own_cap {w : World} {B k n cap : Nat} {e : TypeId} {s : Nat} {xs : List Value} (h : w.ownsRow B e s (.slice (some ⟨k, 0, none⟩) n cap) n xs) : n ≤ cap ∧ cap ≤ maxLen := by
  rcases h.2 with ⟨h0, -⟩ | ⟨k', cap', cur, hh, a1, a2, a3, a4, -⟩
  · cases h0
  · simp only [Value.slice.injEq, Option.some.injEq, Addr.mk.injEq, and_true, true_and] at hh
    obtain ⟨rfl, rfl⟩ := hh
    exact ⟨a3, a4⟩
theorem own_pop {w : World} {B n cap : Nat} {oa : Option Addr} {e : TypeId} {xs : List Value} {x : Value} (h : w.ownsRow B e 1 (.slice oa (n + 1) cap) (n + 1) (xs ++ [x])) : w.ownsRow B e 1 (.slice oa n cap) n xs := by
  obtain ⟨h0, h⟩ := h
  have hl : xs.length = n := by simp at h0; omega
  refine ⟨by omega, ?_⟩
  rcases h with ⟨h1, h2⟩ | ⟨g, c, cur, h1, h2, h3, h4, h5, h6, h7⟩
  · omega
  · simp only [Value.slice.injEq, true_and] at h1
    obtain ⟨rfl, rfl⟩ := h1
    refine .inr ⟨g, cap, cur, rfl, h2, h3, by omega, h5, h6, ?_⟩
    have h8 : (cur.toList.take ((n + 1) * 1)).take n = (xs ++ [x]).take n := by rw [h7]
    rw [List.take_take, Nat.mul_one, Nat.min_eq_left (by omega), List.take_append_of_le_length (by omega), List.take_of_length_le (l := xs) (by omega)] at h8
    rw [Nat.mul_one]
    exact h8
theorem CSt.pop {w : World} {B g ks n cap : Nat} {vR vC : Value} {oa : Option Addr} {p : LProg} {T : Tab} {wk : List Int} {x : Int} (h : CSt w B g ks vR vC (.slice oa (n + 1) cap) p T (wk ++ [x])) (hn : wk.length = n) :
    CSt (w.setCell ⟨g, 3, none⟩ (.slice oa n cap)) B g ks vR vC (.slice oa n cap) p T wk := by
  have ho := h.wk
  have hl : (wk ++ [x]).length = n + 1 := by simp [hn]
  rw [hl, List.map_append] at ho
  have ho := own_pop ho
  have hne : some g ≠ (Value.slice oa n cap).ownBlock := own_ne ho h.box (by decide)
  refine ⟨h.box.set_ 3 _, h.row.far (p := ⟨g, 3, none⟩) h.box (by decide) (by decide) _, ?_, h.tok, h.hg, h.hk⟩
  rw [hn]
  exact own_far ho hne _
theorem least_some {P : Nat → Prop} (h : ∃ n, P n) : ∃ n, P n ∧ ∀ m, P m → n ≤ m := by
  obtain ⟨n, hn⟩ := h
  induction n using Nat.strongRecOn with
  | ind n ih =>
    by_cases hs : ∃ m, m < n ∧ P m
    · obtain ⟨m, h1, h2⟩ := hs
      exact ih m h1 h2
    · exact ⟨n, hn, fun m hm => by
        rcases Nat.lt_or_ge m n with h1 | h1
        · exact absurd ⟨m, h1, hm⟩ hs
        · exact h1⟩
theorem mu_ex (P : World → Nat → Prop) : ∃ mu : World → Nat, ∀ w n, P w n → P w (mu w) ∧ mu w ≤ n := by
  refine ⟨fun w => Classical.epsilon fun n => P w n ∧ ∀ m, P w m → n ≤ m, fun w n h => ?_⟩
  have := Classical.epsilon_spec (least_some ⟨n, h⟩)
  exact ⟨this.1, this.2 n h⟩
/-- what is known at a round of the checker's loop; n: what grows less -/
def Rnd (p : LProg) (w0 : World) (g ks : Nat) (vR vC : Value) (w : World) (n : Nat) : Prop :=
  ∃ (T : Tab) (wk : List Int) (vK : Value), meas T wk = n ∧ n ≤ 87001 ∧ Work p T wk (fun _ => False) ∧ CSt w w0.heap.size g ks vR vC vK p T wk ∧ Ext w0 w
def CheckPost (p : LProg) (w : World) (e : Ending) (w' : World) : Prop :=
  ∃ F : Int × Nat, e = .returned (.agg #[.int .i64 F.1, .int .i64 (F.2 : Int)]) ∧ Ext w w' ∧ (mayOk p = true → ∃ T, Least p T ∧ F = faultOf p T) ∧ (mayOk p = false → F = (2, 0))
theorem faultFrom_beyond (p : LProg) (T : Tab) (k : Nat) : faultFrom p T 0 k = (0, 0) := rfl
theorem faultFrom_nil {p : LProg} {T : Tab} {n k : Nat} (h : tg T k = none) : faultFrom p T (n + 1) k = faultFrom p T n (k + 1) := by rw [faultFrom, h]
theorem faultFrom_some {p : LProg} {T : Tab} {n k : Nat} {s : KSt} (h : tg T k = some s) : faultFrom p T (n + 1) k = if !boundK p k s (insAt p k) then (4, k) else if !quietK p s (insAt p k) then (5, k) else faultFrom p T n (k + 1) := by rw [faultFrom, h]
theorem infoFault : (Try.prog.info? 28).map (·.size) = some 2 := by kernel_rfl
theorem infoPtr : (Try.prog.info? 81).map (fun i => (i.zero, i.size, i.bytes)) = some (some (.pointer none), 1, 8) := by kernel_rfl
theorem ptr_nil (k : Nat) (w : World) : (binOp .eql 81 (.pointer (some ⟨k, 0, none⟩)) (.pointer none)).run Try.prog w = .ok (.bool false) w := by
  first | (kernel_rfl; done) | (go_simp; done)
theorem flt_put {w : World} {g : Nat} {T : TypeId} {a b x y : Value} (h : Blk w g T #[a, b]) : Blk ((w.setCell ⟨g, 0, none⟩ x).setCell ⟨g, 1, none⟩ y) g T #[x, y] := (h.set_ 0 x).set_ 1 y
theorem flt_ext {w w1 : World} {g : Nat} {x y : Value} (h : Ext w w1) (hg : w.heap.size ≤ g) : Ext w ((w1.setCell ⟨g, 0, none⟩ x).setCell ⟨g, 1, none⟩ y) := (h.setCell hg _).setCell hg _
theorem row_none (w : World) (k n B : Nat) (hb : Blk w k 81 (madeCells #[.pointer none] n)) : RowAt w B k n (List.replicate n none) := by
  refine ⟨_, hb, by simp [madeCells], fun j hj => ?_⟩
  have : tg (List.replicate n (none : Option KSt)) j = none := by
    unfold tg
    rw [List.getD_eq_getElem?_getD, List.getElem?_replicate, if_pos hj]
    rfl
  rw [this]
  simp [madeCells, hj, Nat.mod_one]
set_option maxRecDepth 100000 in
set_option maxHeartbeats 8000000 in
theorem check_c (p : LProg) (v : Value) (w : World) (hp : ProgAt w v p) : Calls Try.prog 23 #[v] w (CheckPost p w) := by
  have HP := Lib.hid hp
  obtain ⟨oa, capa, oc, capc, rfl⟩ : ∃ a b c d, v = .agg #[.slice a p.regs.length b, .slice c p.code.length d] := by
    obtain ⟨v1, v2, rfl, ⟨-, oa, cap, b, o, rfl, -⟩, ⟨-, ob, capb, b2, o2, rfl, -⟩⟩ := hp
    exact ⟨_, _, _, _, rfl⟩
  clear hp
  go_enter Try.func23, Try.ntmps23
  go_upto_region 1 with fail
  obtain ⟨W, gb, hg, hW, hx, bP, bF⟩ := blocks2 w #[.slice oa p.regs.length capa, .slice oc p.code.length capc] #[.int .i64 0, .int .i64 0] 25 28
  rw [hW, hg]
  have X := Lib.hid hx
  have hgb : w.heap.size ≤ gb := by omega
  have Hgb := Lib.hid hgb
  have p0 : W.cell? ⟨gb, 0, none⟩ = some (.slice oa p.regs.length capa) := by rw [bP.cell]; rfl
  have p1 : W.cell? ⟨gb, 1, none⟩ = some (.slice oc p.code.length capc) := by rw [bP.cell]; rfl
  clear hW hg hx
  go_wp2_with fail
  have C := may_c p _ W (HP.out.ext X.out)
  (with_reducible refine C.mono ?_)
  clear C
  rintro e w1 ⟨rfl, hx⟩
  have bP := bP.ext hx
  have bF := bF.ext hx
  have X := Lib.hid (X.out.trans hx)
  have p0 := hx.kept p0
  have p1 := hx.kept p1
  have f0 : w1.cell? ⟨gb + 1, 0, none⟩ = some (.int .i64 0) ∧ w1.frozen? ⟨gb + 1, 0, none⟩ = false := ⟨by rw [bF.cell]; rfl, bF.frozen _⟩
  have f1 : w1.cell? ⟨gb + 1, 1, none⟩ = some (.int .i64 0) ∧ w1.frozen? ⟨gb + 1, 1, none⟩ = false := ⟨by rw [bF.cell]; rfl, bF.frozen _⟩
  have hgl := bF.lt
  clear hx hgb
  cases hmay : mayOk p
  · have BF := Lib.hid bF
    have BP := Lib.hid bP
    clear bF bP
    go_wp2
    exact bodyPost_ret (results_blk (flt_put BF.out) rfl _ rfl Try.underlying28 rfl infoFault) rfl ⟨(2, 0), rfl, flt_ext X.out (by have := Hgb.out; omega), fun h => (by rw [hmay] at h; cases h), fun _ => rfl⟩
  · obtain ⟨hr, hc1, hcl, hins⟩ := may_parts hmay
    have Hr := Lib.hid hr
    have Hins := Lib.hid hins
    have Hmay := Lib.hid hmay
    have hmk : ∀ wx, (Instr.makeSlice 73 (.int .i64 (p.code.length : Int)) (.int .i64 (p.code.length : Int))).run Try.prog wx = .ok (.slice (some ⟨wx.heap.size, 0, none⟩) p.code.length p.code.length) (wx.alloc (.cells (madeCells #[.pointer none] p.code.length) 81)) := fun wx =>
      run_make_row' (P := Try.prog) 73 81 (.pointer none) 8 Try.underlying73 infoPtr rfl .i64 .i64 p.code.length (by omega) (by omega) wx
    clear hr hins hmay
    go_upto_region 3 with fail
    have kp0 : ∀ W, Ext w1 W → W.cell? ⟨gb, 0, none⟩ = some (.slice oa p.regs.length capa) := fun _ h => h.kept p0
    have kp1 : ∀ W, Ext w1 W → W.cell? ⟨gb, 1, none⟩ = some (.slice oc p.code.length capc) := fun _ h => h.kept p1
    have BF := Lib.hid bF
    have BP := Lib.hid bP
    clear f0 f1 bF bP
    refine region_float [4, 5, 6, 7] 3 (by kernel_rfl) (by kernel_rfl) ?_
    repeat (first | (refine cw_heavy ?_ ?_; (decide)) | (refine cw_value ?_ ?_ ?_; (decide); (first | rfl | (focus (go_simp; done))); apply Exists.intro; refine ⟨fun wc hE => ?_, ?_⟩; (go_simp; exact rfl); go_simp) | (refine cw_skip ?_ ?_ ?_; (decide); (focus (go_simp; done)); go_simp))
    refine cw_nil ?_
    intro w2 hx
    clear kp0 kp1 p0 p1
    refine wpF_soft rfl ?_
    go_wp2
    refine ⟨hx.alloc _, ?_⟩
    refine wpF_soft rfl ?_
    go_wp2
    refine ⟨hx.alloc _, ?_⟩
    refine wpF_soft rfl ?_
    go_wp2
    refine ⟨(hx.alloc _).alloc _, ?_⟩
    refine wpF_hard (heavies_cons rfl heavies_nil) ?_
    obtain ⟨w3, hw3, hP3⟩ : ∃ w3, ((w2.alloc (.cells (madeCells #[.pointer none] p.code.length) 81)).alloc (.cells #[.slice oa p.regs.length capa, .slice oc p.code.length capc, .slice (some ⟨w2.heap.size, 0, none⟩) p.code.length p.code.length, .slice none 0 0] 75)) = w3 ∧
        CSt w3 w1.heap.size (w2.heap.size + 1) w2.heap.size (.slice oa p.regs.length capa) (.slice oc p.code.length capc) (.slice none 0 0) p (List.replicate p.code.length none) [] ∧ Ext w1 w3 := by
      have hz := hx.size
      have b1 := Blk.new w2 81 (madeCells #[.pointer none] p.code.length)
      refine ⟨_, rfl, ⟨?_, row_none _ _ _ _ (b1.alloc _), World.ownsRow_nil _ _ _ _, ⟨by simp, fun k s hk => ?_⟩, by omega, by omega⟩, (hx.alloc _).alloc _⟩
      · have := Blk.new (w2.alloc (.cells (madeCells #[.pointer none] p.code.length) 81)) 75 #[.slice oa p.regs.length capa, .slice oc p.code.length capc, .slice (some ⟨w2.heap.size, 0, none⟩) p.code.length p.code.length, .slice none 0 0]
        simpa using this
      · exfalso
        unfold tg at hk
        rw [List.getD_eq_getElem?_getD, List.getElem?_replicate] at hk
        split at hk <;> cases hk
    have hP3 := Lib.hid hP3
    try rw [hw3]
    clear hw3
    generalize w2.heap.size = ks at *
    generalize ks + 1 = g at *
    clear hx hmk
    have hk8 : kstart.length = 8 := rfl
    have Hcl := Lib.hid hcl
    go_wp2_with fail
    rw [st0]
    have C := lead_c p 0 kstart kstart_ok hcl (by simp) w3 hP3.out.1
    have e00 : ((0 : Nat) : Int) = 0 := rfl
    rw [e00] at C
    (with_reducible refine C.mono ?_)
    clear C
    rintro e w4 ⟨rfl, vK, P4, T4⟩
    have hl1 := lead_first p hc1
    rw [hl1.1, hl1.2] at P4
    have E4 := Lib.hid (Below.trans hP3.out.2 (lead_below hP3.out.1 T4))
    have P4 := Lib.hid P4
    clear T4 hl1 hP3
    obtain ⟨mu, hmu⟩ := mu_ex (Rnd p w1 g ks (.slice oa p.regs.length capa) (.slice oc p.code.length capc))
    have Hmu := Lib.hid hmu
    clear hmu
    go_wp2_with fail
    go_loopw [] (fun wr => ∃ n, Rnd p w1 g ks (.slice oa p.regs.length capa) (.slice oc p.code.length capc) wr n) (fun wr => mu wr)
    case atStart => exact ⟨_, _, _, _, rfl, meas_first p hcl, work_first p (by omega), P4.out, E4.out⟩
    case round =>
      obtain ⟨n0, hn0⟩ := hrel
      obtain ⟨T, wk, vK, hm, hmb, hw, P, hE⟩ := (Hmu.out wr n0 hn0).1
      clear hn0
      have PP := Lib.hid P
      have XE := Lib.hid hE
      have HW := Lib.hid hw
      have Hm := Lib.hid hm
      have Hmb := Lib.hid hmb
      have hwl : wk.length ≤ 87001 := by unfold meas at hm; omega
      obtain ⟨-, -, g2, g3⟩ := P.cells
      have hgl2 := P.box.lt
      by_cases hne : 0 < wk.length
      · obtain ⟨wk', x, rfl⟩ := work_last hne
        obtain ⟨k, rfl, hk, s, hs⟩ := hw.elems x (by simp)
        have hl : (wk' ++ [(k : Int)]).length = wk'.length + 1 := by simp
        obtain ⟨kb, capb, hvb, hkb, hcs⟩ := ck_own_at P.wk hne
        obtain ⟨hx0, -⟩ := hcs wk'.length (.int .i64 (k : Int)) (by omega) (by simp)
        subst hvb
        have hcap := ck_own_cap P.wk
        rw [hl] at g3 hcap hwl
        have P := PP.out
        rw [hl] at P
        have Hs := Lib.hid hs
        obtain ⟨N, hN⟩ : ∃ N, wk'.length = N := ⟨_, rfl⟩
        rw [hN] at g3 hcap hwl hx0 P
        have PP := Lib.hid P
        have HN := Lib.hid hN
        have hcap1 := hcap.1
        have hwrN : IntKind.i64.wrap (N : Int) = (N : Int) := Go.IntWalk.i64_in _ (by omega)
        have hsB : (N : Int) ≤ (capb : Int) := by omega
        have hsD : ¬ capb = 0 := by omega
        have hixb : ∀ W, (Instr.indexAt 51 (.slice (some ⟨kb, 0, none⟩) (N + 1) capb) (.int .i64 (N : Int))).run Try.prog W = .ok (.pointer (some ⟨kb, N, none⟩)) W := fun W => by
          have := ck_index kb (N + 1) capb W (N : Int) (by omega) (by omega)
          simpa using this
        clear hcs hl hw P hE hm hmb hne hs hN
        go_upto_region 6 with fail
        have k3 : ∀ W, Ext wr W → W.cell? ⟨g, 3, none⟩ = some (.slice (some ⟨kb, 0, none⟩) (N + 1) capb) := fun _ h => h.kept g3.1
        have kx : ∀ W, Ext wr W → W.cell? ⟨kb, N, none⟩ = some (.int .i64 (k : Int)) := fun _ h => h.kept hx0
        refine region_calm 13 (by kernel_rfl) (by kernel_rfl) ?_
        simp only [List.take_succ_cons, List.take_zero, List.drop_succ_cons, List.drop_zero]
        repeat (first | (refine calm_fresh ?_ ?_ (fun wc hE => ?_) ?_; (decide); rfl; (focus (go_simp; done)); go_simp) | (refine calm_value ?_ ?_ ?_; (decide); (first | rfl | (focus (go_simp; done))); apply Exists.intro; refine ⟨fun wc hE => ?_, ?_⟩; (go_simp; exact rfl); go_simp) | (refine calm_call ?_ ?_ ?_; (decide); (first | rfl | (focus (go_simp; done))); apply Exists.intro; refine ⟨fun wc hE => ?_, ?_⟩; (go_simp; (first | fail)); go_simp) | (refine calm_skip ?_ ?_ ?_; (decide); (focus (go_simp; done)); go_simp))
        refine calm_nil ?_
        intro w5 hx
        clear k3 kx hx0 g2
        have g3 := kept2 hx g3
        have PP := Lib.hid (PP.out.ext hx)
        have XE := Lib.hid (XE.out.trans hx)
        have hgl2 := PP.out.box.lt
        clear hx hixb
        go_upto_region 7 with fail
        have k3 : ∀ W, Ext w5 W → W.cell? ⟨g, 3, none⟩ = some (.slice (some ⟨kb, 0, none⟩) (N + 1) capb) := fun _ h => h.kept g3.1
        refine region_float [14] 0 (by kernel_rfl) (by kernel_rfl) ?_
        repeat (first | (refine cw_heavy ?_ ?_; (decide)) | (refine cw_value ?_ ?_ ?_; (decide); (first | rfl | (focus (go_simp; done))); apply Exists.intro; refine ⟨fun wc hE => ?_, ?_⟩; (go_simp; exact rfl); go_simp) | (refine cw_skip ?_ ?_ ?_; (decide); (focus (go_simp; done)); go_simp))
        refine cw_nil ?_
        intro w6 hx
        clear k3
        have g3 := kept2 hx g3
        have PP := PP.out.ext hx
        have XE := XE.out.trans hx
        have hgl2 := PP.box.lt
        refine wpF_hard (heavies_cons rfl heavies_nil) ?_
        obtain ⟨w7, hw7, hP7⟩ : ∃ w7, w6.setCell ⟨g, 3, none⟩ (.slice (some ⟨kb, 0, none⟩) N capb) = w7 ∧ CSt w7 w1.heap.size g ks (.slice oa p.regs.length capa) (.slice oc p.code.length capc) (.slice (some ⟨kb, 0, none⟩) N capb) p T wk' ∧ Ext w1 w7 :=
          ⟨_, rfl, PP.pop HN.out, XE.setCell (p := ⟨g, 3, none⟩) PP.hg _⟩
        have P7 := Lib.hid hP7.1
        have X7 := Lib.hid hP7.2
        clear hx XE PP hP7
        go_upto_region 8 with fail
        try rw [hw7]
        clear g3 hgl2 hw7
        obtain ⟨-, -, g2, -⟩ := P7.out.cells
        have hgl2 := P7.out.box.lt
        obtain ⟨kk, q0, hkk, bS⟩ := (P7.out.row_at hk).2 s Hs.out
        have hq0 := block_lt q0.1
        have hkl := bS.lt
        have hso := P7.out.tok.ok k s Hs.out
        have hst : ∀ W, (Instr.indexAt 73 (.slice (some ⟨ks, 0, none⟩) p.code.length p.code.length) (.int .i64 (k : Int))).run Try.prog W = .ok (.pointer (some ⟨ks, k, none⟩)) W := fun W => by
          have := index_sts W ks p.code.length p.code.length (k : Int) (by omega) (by omega)
          simpa using this
        have hl8 := hso.len
        have Hso := Lib.hid hso
        clear hso
        go_wp2_with (first | ((with_reducible refine load_all bS ?_ Try.underlying80 ?_ ?_ ?_); rfl; rfl; (rw [stV_size hl8]; exact infoState')) | fail)
        have C := one_c p k s Hso.out Hr.out Hcl.out hk (Hins.out _ (getD_mem hk)) (by rw [HN.out]; omega) w7 (HP.out.ext (X.out.trans X7.out)) P7.out
        (with_reducible refine C.mono ?_)
        clear C
        rintro e w8 ⟨rfl, vK', P8, B8⟩
        have HR := work_round HW.out Hs.out
        have Hnew : Rnd p w1 g ks (.slice oa p.regs.length capa) (.slice oc p.code.length capc) w8 (meas (leadAll p (leadsK p k s (insAt p k)) (T, wk')).1 (leadAll p (leadsK p k s (insAt p k)) (T, wk')).2) :=
          ⟨_, _, vK', rfl, by have := Hm.out; have := Hmb.out; have := HR.2; omega, HR.1, P8, Below.trans X7.out B8⟩
        have Hnew := Lib.hid Hnew
        have Hless : Hid (mu w8 < mu wr) := Lib.hid (by
          have h1 := (Hmu.out _ _ Hnew.out).2
          have h2 := HR.2
          have h3 := Hm.out
          omega)
        clear HR P8 B8 bS g2 q0
        go_wp2
        go_roundw
        case rel => exact ⟨_, Hnew.out⟩
        case measure => exact Hless.out
      · have hwk : wk = [] := by
          cases wk with
          | nil => rfl
          | cons a b => simp at hne
        subst hwk
        have HL := Lib.hid (work_least hw)
        obtain ⟨ok, okc, rfl⟩ := own_slice P.wk
        have hl0 : (([] : List Int).length : Nat) = 0 := rfl
        rw [hl0] at g3
        clear hw P hE hm hmb hne HW Hm Hmb Hmu hl0
        rename World => wA
        go_wp2_with fail
        go_loopw [70] (fun i wr => ∃ j : Nat, j ≤ p.code.length ∧ i = .int .i64 j ∧ Ext wA wr ∧ faultFrom p T (p.code.length - j) j = faultOf p T) (fun i _ => p.code.length - (intOf i).toNat)
        case atStart => exact ⟨0, by omega, rfl, Ext.refl _, rfl⟩
        case round =>
          obtain ⟨j, hj, rfl, hE2, hF⟩ := hrel
          have P := PP.out.ext hE2
          have X2 := Lib.hid hE2
          have HF := Lib.hid hF
          clear g2 g3 hgl2
          obtain ⟨-, -, g2, -⟩ := P.cells
          have hgl2 := P.box.lt
          clear hE2 hF
          by_cases hlt : j < p.code.length
          · have hst : ∀ W, (Instr.indexAt 73 (.slice (some ⟨ks, 0, none⟩) p.code.length p.code.length) (.int .i64 (j : Int))).run Try.prog W = .ok (.pointer (some ⟨ks, j, none⟩)) W := fun W => by
              have := index_sts W ks p.code.length p.code.length (j : Int) (by omega) (by omega)
              simpa using this
            have hnj : p.code.length - j = (p.code.length - (j + 1)) + 1 := by omega
            cases ht : tg T j with
            | none =>
              obtain ⟨q0, -⟩ := (P.row_at hlt).1 ht
              have Hn := Lib.hid (show faultFrom p T (p.code.length - (j + 1)) (j + 1) = faultOf p T by rw [← HF.out, hnj, faultFrom_nil ht])
              clear P ht hnj
              go_wp2
              go_roundw
              case rel => exact ⟨j + 1, by omega, by go_num, X2.out, Hn.out⟩
              case measure => first | (simp [intOf]; done) | (simp [intOf]; omega)
            | some s =>
              obtain ⟨kk, q0, hkk, bS⟩ := (P.row_at hlt).2 s ht
              have hq0 := block_lt q0.1
              have hkl := bS.lt
              have hso := P.tok.ok j s ht
              have hl8 := hso.len
              have Hso := Lib.hid hso
              have hpn := ptr_nil kk
              have BS := Lib.hid bS
              have Hf := Lib.hid (faultFrom_some (p := p) (n := p.code.length - (j + 1)) ht)
              have HF2 : Hid (faultFrom p T (p.code.length - (j + 1) + 1) j = faultOf p T) := Lib.hid (by rw [← hnj]; exact HF.out)
              clear hso hnj ht
              go_wp2_with (first | ((with_reducible refine load_all bS ?_ Try.underlying80 ?_ ?_ ?_); rfl; rfl; (rw [stV_size hl8]; exact infoState')) | fail)
              have C := bound_c p j s Hso.out Hr.out Hcl.out hlt (Hins.out _ (getD_mem hlt)) wr (HP.out.ext (X.out.trans (XE.out.trans X2.out))) P
              (with_reducible refine C.mono ?_)
              clear C
              rintro e w5 ⟨rfl, hx⟩
              have P := P.ext hx
              have X2 := Lib.hid (X2.out.trans hx)
              have bS := BS.out.ext hx
              have BS := Lib.hid bS
              have q0 := kept2 hx q0
              have hkl := bS.lt
              have hq0 := block_lt q0.1
              clear hx
              cases hb : boundK p j s (insAt p j)
              · have HE := Lib.hid (show ((4 : Int), j) = faultOf p T by rw [← HF2.out, Hf.out, hb]; rfl)
                have bF := BF.out.ext (XE.out.trans X2.out)
                have f0 : w5.cell? ⟨gb + 1, 0, none⟩ = some (.int .i64 0) ∧ w5.frozen? ⟨gb + 1, 0, none⟩ = false := ⟨by rw [bF.cell]; rfl, bF.frozen _⟩
                have f1 : w5.cell? ⟨gb + 1, 1, none⟩ = some (.int .i64 0) ∧ w5.frozen? ⟨gb + 1, 1, none⟩ = false := ⟨by rw [bF.cell]; rfl, bF.frozen _⟩
                have hgl3 := bF.lt
                clear bF
                clear bS q0 P hb
                go_wp2
                exact bodyPost_ret (results_blk (flt_put (BF.out.ext (XE.out.trans X2.out))) rfl _ rfl Try.underlying28 rfl infoFault) rfl ⟨(4, j), rfl, flt_ext (X.out.trans (XE.out.trans X2.out)) (by have := Hgb.out; omega), fun _ => ⟨T, HL.out, HE.out⟩, fun h => (by rw [Hmay.out] at h; cases h)⟩
              · have Hb := Lib.hid hb
                clear hb
                go_wp2_with (first | ((with_reducible refine load_all bS ?_ Try.underlying80 ?_ ?_ ?_); rfl; rfl; (rw [stV_size hl8]; exact infoState')) | fail)
                have C := quiet_c p j s Hso.out Hr.out Hcl.out hlt (Hins.out _ (getD_mem hlt)) w5 (HP.out.ext (X.out.trans (XE.out.trans X2.out))) P
                (with_reducible refine C.mono ?_)
                clear C
                rintro e w6 ⟨rfl, hx⟩
                have X2 := Lib.hid (X2.out.trans hx)
                clear hx P bS q0
                cases hq : quietK p s (insAt p j)
                · have HE := Lib.hid (show ((5 : Int), j) = faultOf p T by rw [← HF2.out, Hf.out, Hb.out, hq]; rfl)
                  have bF := BF.out.ext (XE.out.trans X2.out)
                  have f0 : w6.cell? ⟨gb + 1, 0, none⟩ = some (.int .i64 0) ∧ w6.frozen? ⟨gb + 1, 0, none⟩ = false := ⟨by rw [bF.cell]; rfl, bF.frozen _⟩
                  have f1 : w6.cell? ⟨gb + 1, 1, none⟩ = some (.int .i64 0) ∧ w6.frozen? ⟨gb + 1, 1, none⟩ = false := ⟨by rw [bF.cell]; rfl, bF.frozen _⟩
                  have hgl3 := bF.lt
                  clear bF
                  clear hq
                  go_wp2
                  exact bodyPost_ret (results_blk (flt_put (BF.out.ext (XE.out.trans X2.out))) rfl _ rfl Try.underlying28 rfl infoFault) rfl ⟨(5, j), rfl, flt_ext (X.out.trans (XE.out.trans X2.out)) (by have := Hgb.out; omega), fun _ => ⟨T, HL.out, HE.out⟩, fun h => (by rw [Hmay.out] at h; cases h)⟩
                · have Hn := Lib.hid (show faultFrom p T (p.code.length - (j + 1)) (j + 1) = faultOf p T by rw [← HF2.out, Hf.out, Hb.out, hq]; rfl)
                  clear hq
                  go_wp2
                  go_roundw
                  case rel => exact ⟨j + 1, by omega, by go_num, X2.out, Hn.out⟩
                  case measure => first | (simp [intOf]; done) | (simp [intOf]; omega)
          · have hje : j = p.code.length := by omega
            subst hje
            have hlt2 : decide ((p.code.length : Int) < (p.code.length : Int)) = false := by simp
            have HE := Lib.hid (show ((0 : Int), 0) = faultOf p T by rw [← HF.out, Nat.sub_self]; rfl)
            have bF := BF.out.ext (XE.out.trans X2.out)
            have f0 : wr.cell? ⟨gb + 1, 0, none⟩ = some (.int .i64 0) ∧ wr.frozen? ⟨gb + 1, 0, none⟩ = false := ⟨by rw [bF.cell]; rfl, bF.frozen _⟩
            have f1 : wr.cell? ⟨gb + 1, 1, none⟩ = some (.int .i64 0) ∧ wr.frozen? ⟨gb + 1, 1, none⟩ = false := ⟨by rw [bF.cell]; rfl, bF.frozen _⟩
            have hgl3 := bF.lt
            clear bF
            clear P
            go_wp2
            exact bodyPost_ret (results_blk (flt_put (BF.out.ext (XE.out.trans X2.out))) rfl _ rfl Try.underlying28 rfl infoFault) rfl ⟨(0, 0), rfl, flt_ext (X.out.trans (XE.out.trans X2.out)) (by have := Hgb.out; omega), fun _ => ⟨T, HL.out, HE.out⟩, fun h => (by rw [Hmay.out] at h; cases h)⟩
end Go.Proofs.Yteiknefajlocoaa
/- Walk of the reference's States (chapter 6). -/
namespace Go.Proofs.Yteiknefajlocoaa
open Go.ChangeShapes Go.WideShapes Go.ChangeAt Go.RowKit
set_option linter.unusedVariables false
set_option linter.unusedSimpArgs false

theorem infoSt3 : (Try.prog.info? 87).map (fun i => (i.zero, i.size, i.bytes)) = some (some (.agg #[.bool false, .slice none 0 0]), 2, 32) := by kernel_rfl
theorem made_get (z : Array Value) (n j : Nat) (hj : j < n) : (madeCells z n)[j]? = some z[j % z.size]! := by simp [madeCells, hj]
theorem made_size (z : Array Value) (n : Nat) : (madeCells z n).size = n := by simp [madeCells]
theorem make_states (n : Nat) (hn : n ≤ 1000) (w : World) : (Instr.makeSlice 83 (.int .i64 (n : Int)) (.int .i64 (n : Int))).run Try.prog w = .ok (.slice (some ⟨w.heap.size, 0, none⟩) n n) (w.alloc (.cells (madeCells #[.bool false, .slice none 0 0] (n * 2)) 87)) := by
  obtain ⟨i, hi, hz, hs, hb⟩ := info_parts infoSt3
  have := run_make (P := Try.prog) w 83 87 i (.agg #[.bool false, .slice none 0 0]) Try.underlying83 hi hz .i64 .i64 n n (by omega) (Int.le_refl _) (by rw [hb]; omega) (by omega)
  rw [show (Value.agg #[.bool false, .slice none 0 0]).cells = #[.bool false, .slice none 0 0] from rfl, hs, Int.toNat_natCast] at this
  exact this
theorem make_kn8 (w : World) : (Instr.makeSlice 85 (.int .i64 8) (.int .i64 8)).run Try.prog w = .ok (.slice (some ⟨w.heap.size, 0, none⟩) 8 8) (w.alloc (.cells (madeCells #[.int .i64 0, .bool false] 16) 78)) := by
  obtain ⟨i, hi, hz, hs, hb⟩ := info_parts infoKn3
  have := run_make (P := Try.prog) w 85 78 i (.agg #[.int .i64 0, .bool false]) Try.underlying85 hi hz .i64 .i64 8 8 (by omega) (Int.le_refl _) (by rw [hb]; omega) (by omega)
  rw [show (Value.agg #[.int .i64 0, .bool false]).cells = #[.int .i64 0, .bool false] from rfl, hs] at this
  exact this
theorem index_tab (ks n cap : Nat) (W : World) (i : Int) (h0 : 0 ≤ i) (h1 : i < n) :
    (Instr.indexAt 83 (.slice (some ⟨ks, 0, none⟩) n cap) (.int .i64 i)).run Try.prog W = .ok (.pointer (some ⟨ks, i.toNat * 2, none⟩)) W := by
  have hs : (Try.prog.info? 87).map (·.size) = some 2 := by kernel_rfl
  simp [Instr.indexAt, run_underlying Try.underlying83, asIntOf, h0, h1]
  have := addr_add ks 0 (i.toNat * 2)
  simpa using this
theorem index_lead (b n cap : Nat) (W : World) (i : Int) (h0 : 0 ≤ i) (h1 : i < n) :
    (Instr.indexAt 88 (.slice (some ⟨b, 0, none⟩) n cap) (.int .i64 i)).run Try.prog W = .ok (.pointer (some ⟨b, i.toNat * 3, none⟩)) W := by
  have hs : (Try.prog.info? 91).map (·.size) = some 3 := by kernel_rfl
  simp [Instr.indexAt, run_underlying Try.underlying88, asIntOf, h0, h1]
  have := addr_add b 0 (i.toNat * 3)
  simpa using this
theorem tab_none {w : World} {ks n : Nat} (h : Blk w ks 87 (madeCells #[.bool false, .slice none 0 0] (n * 2))) : TabAt w ks n (List.replicate n none) := by
  refine ⟨_, h, made_size _ _, fun j hj => ?_⟩
  have : tg (List.replicate n (none : Option KSt)) j = none := by
    unfold tg
    rw [List.getD_eq_getElem?_getD, List.getElem?_replicate, if_pos hj]
    rfl
  rw [this]
  refine ⟨?_, ?_⟩
  · rw [made_get _ _ _ (by omega)]
    simp [show j * 2 % 2 = 0 by omega]
  · rw [made_get _ _ _ (by omega)]
    simp [show (j * 2 + 1) % 2 = 1 by omega]
theorem kn_start {w : World} {B k : Nat} (h : Blk w k 78 (madeCells #[.int .i64 0, .bool false] 16)) (hB : B ≤ k) : KnAt w B (.slice (some ⟨k, 0, none⟩) 8 8) kstart := by
  refine ⟨rfl, k, 8, _, rfl, by omega, by decide, hB, h, fun j hj => ?_⟩
  rw [made_get _ _ _ hj]
  rcases (show j = 0 ∨ j = 1 ∨ j = 2 ∨ j = 3 ∨ j = 4 ∨ j = 5 ∨ j = 6 ∨ j = 7 ∨ j = 8 ∨ j = 9 ∨ j = 10 ∨ j = 11 ∨ j = 12 ∨ j = 13 ∨ j = 14 ∨ j = 15 by omega) with rfl | rfl | rfl | rfl | rfl | rfl | rfl | rfl | rfl | rfl | rfl | rfl | rfl | rfl | rfl | rfl <;> rfl
/-- a state in the table -/
theorem TabAt.at_ {w : World} {ks n : Nat} {T : Tab} (h : TabAt w ks n T) {j : Nat} (hj : j < n) :
    (tg T j = none → (w.cell? ⟨ks, j * 2, none⟩ = some (.bool false) ∧ w.frozen? ⟨ks, j * 2, none⟩ = false) ∧ (w.cell? ⟨ks, j * 2 + 1, none⟩ = some (.slice none 0 0) ∧ w.frozen? ⟨ks, j * 2 + 1, none⟩ = false)) ∧
    (∀ s, tg T j = some s → ∃ b cap, (w.cell? ⟨ks, j * 2, none⟩ = some (.bool true) ∧ w.frozen? ⟨ks, j * 2, none⟩ = false) ∧ (w.cell? ⟨ks, j * 2 + 1, none⟩ = some (.slice (some ⟨b, 0, none⟩) 8 cap) ∧ w.frozen? ⟨ks, j * 2 + 1, none⟩ = false) ∧ KnAt w 0 (.slice (some ⟨b, 0, none⟩) 8 cap) s) := by
  obtain ⟨R, h1, h2, h3⟩ := h
  have := h3 j hj
  refine ⟨fun ht => ?_, fun s ht => ?_⟩
  · rw [ht] at this
    exact ⟨⟨by rw [h1.cell, this.1], h1.frozen _⟩, ⟨by rw [h1.cell, this.2], h1.frozen _⟩⟩
  · rw [ht] at this
    obtain ⟨e1, v, e2, e3⟩ := this
    obtain ⟨b, cap, rfl, -⟩ := e3.form
    exact ⟨b, cap, ⟨by rw [h1.cell, e1], h1.frozen _⟩, ⟨by rw [h1.cell, e2], h1.frozen _⟩, e3⟩
theorem TabAt.lt {w : World} {ks n : Nat} {T : Tab} (h : TabAt w ks n T) : ks < w.heap.size := by
  obtain ⟨R, h1, -⟩ := h
  exact h1.lt
theorem KnAt.lt_ {w : World} {B b cap : Nat} {s : KSt} (h : KnAt w B (.slice (some ⟨b, 0, none⟩) 8 cap) s) : b < w.heap.size := by
  obtain ⟨h0, b', cap', R, e1, h2, h3, h4, h5, h6⟩ := h
  simp only [Value.slice.injEq, Option.some.injEq, Addr.mk.injEq, and_true, true_and] at e1
  rw [e1.1]
  exact h5.lt
theorem LeadsAt.form {w : World} {B : Nat} {v : Value} {l : List (Nat × KSt)} (h : LeadsAt w B v l) (h0 : 0 < l.length) : ∃ b cap, v = .slice (some ⟨b, 0, none⟩) l.length cap := by
  obtain ⟨oa, cap, b, h1, h2, h3, hB, h4, -⟩ := h
  rw [h4 h0] at h1
  exact ⟨b, cap, h1⟩
theorem LeadsAt.at_ {w : World} {B b cap n : Nat} {l : List (Nat × KSt)} (h : LeadsAt w B (.slice (some ⟨b, 0, none⟩) n cap) l) {k : Nat} (hk : k < l.length) : ∃ c capc,
    w.cell? ⟨b, k * 3, none⟩ = some (.int .i64 ((l.getD k default).1 : Int)) ∧ w.cell? ⟨b, k * 3 + 1, none⟩ = some (.bool true) ∧ w.cell? ⟨b, k * 3 + 2, none⟩ = some (.slice (some ⟨c, 0, none⟩) 8 capc) ∧ KnAt w B (.slice (some ⟨c, 0, none⟩) 8 capc) (l.getD k default).2 := by
  obtain ⟨oa, cap', b', h1, h2, h3, hB, h4, vs, h5⟩ := h
  rw [h4 (by omega)] at h1
  simp only [Value.slice.injEq, Option.some.injEq, Addr.mk.injEq, and_true, true_and] at h1
  obtain ⟨rfl, -, rfl⟩ := h1
  obtain ⟨e1, e2, e3, e4⟩ := h5 k hk
  obtain ⟨c, capc, hv, -⟩ := e4.form
  rw [hv] at e3 e4
  exact ⟨c, capc, e1, e2, e3, e4⟩
theorem mu2_ex (P : Value → World → Nat → Prop) : ∃ mu : Value → World → Nat, ∀ v w n, P v w n → P v w (mu v w) ∧ mu v w ≤ n := by
  have h := fun v => mu_ex (P v)
  exact ⟨fun v => Classical.choose (h v), fun v => Classical.choose_spec (h v)⟩
/-- behind 's := join(..)': the box, wherever it lies -/
def Fit9 (wr : World) (s9 : Value) (wx : World) (J : KSt) : Prop :=
  ∃ u f capf, s9 = .pointer (some ⟨u, 0, none⟩) ∧ wr.heap.size ≤ u ∧ Ext wr wx ∧ Blk wx u 87 #[.bool true, .slice (some ⟨f, 0, none⟩) 8 capf] ∧ KnAt wx wr.heap.size (.slice (some ⟨f, 0, none⟩) 8 capf) J
theorem fit_a {wr w5 : World} {f capf : Nat} {J : KSt} (hx : Ext wr.drew w5) (hK : KnAt w5 wr.drew.heap.size (.slice (some ⟨f, 0, none⟩) 8 capf) J) :
    Fit9 wr (.pointer (some ⟨w5.heap.size, 0, none⟩)) (w5.alloc (.cells #[.bool true, .slice (some ⟨f, 0, none⟩) 8 capf] 87)) J :=
  ⟨_, f, capf, rfl, hx.size, (((Ext.refl wr).drew).trans hx).alloc _, Blk.new _ _ _, hK.ext ((Ext.refl _).alloc _)⟩
theorem fit_b {wr w5 : World} {f capf : Nat} {J : KSt} (hx : Ext (wr.alloc (.cells #[.bool false, .slice none 0 0] 87)).drew w5) (hK : KnAt w5 (wr.alloc (.cells #[.bool false, .slice none 0 0] 87)).drew.heap.size (.slice (some ⟨f, 0, none⟩) 8 capf) J) :
    Fit9 wr (.pointer (some ⟨wr.heap.size, 0, none⟩)) ((w5.setCell ⟨wr.heap.size, 0, none⟩ (.bool true)).setCell ⟨wr.heap.size, 1, none⟩ (.slice (some ⟨f, 0, none⟩) 8 capf)) J := by
  have hx' : Ext (wr.alloc (.cells #[.bool false, .slice none 0 0] 87)) w5 := ((Ext.refl _).drew).trans hx
  have hb := (Blk.new wr 87 #[.bool false, .slice none 0 0]).ext hx'
  have hE : Ext wr w5 := ((Ext.refl wr).alloc _).trans hx'
  have hK' : KnAt w5 wr.heap.size (.slice (some ⟨f, 0, none⟩) 8 capf) J := hK.mono (by simp)
  exact ⟨_, f, capf, rfl, Nat.le_refl _, (hE.setCell (p := ⟨wr.heap.size, 0, none⟩) (Nat.le_refl _) _).setCell (p := ⟨wr.heap.size, 1, none⟩) (Nat.le_refl _) _, (hb.set_ 0 _).set_ 1 _,
    (hK'.far (p := ⟨wr.heap.size, 0, none⟩) hb (by decide) _).far (p := ⟨wr.heap.size, 1, none⟩) (hb.set_ _ _) (by decide) _⟩
/-- what is known ahead of a round of the reference -/
def RndS (p : LProg) (w0 : World) (ks : Nat) (v : Value) (w : World) (n : Nat) : Prop :=
  ∃ (T : Tab) (again : Bool), v = .bool again ∧ TabAt w ks p.code.length T ∧ Ext w0 w ∧ Tok p T ∧ Under p T ∧ (∃ s, tg T 0 = some s ∧ Sle kstart s) ∧ (again = false → Least p T) ∧ n = (if again = true then phi T + 1 else 0)
def StatesPost (p : LProg) (w : World) (e : Ending) (w' : World) : Prop :=
  ∃ ks T, e = .returned (.slice (some ⟨ks, 0, none⟩) p.code.length p.code.length) ∧ TabAt w' ks p.code.length T ∧ Least p T ∧ Ext w w'
set_option maxRecDepth 100000 in
set_option maxHeartbeats 8000000 in
theorem states_c (p : LProg) {oa : Option Addr} {capa : Nat} {oc : Option Addr} {capc : Nat} (hmay : mayOk p = true) (w : World) (hp : ProgAt w (.agg #[.slice oa p.regs.length capa, .slice oc p.code.length capc]) p) :
    Calls Try.prog 55 #[.agg #[.slice oa p.regs.length capa, .slice oc p.code.length capc]] w (StatesPost p w) := by
  obtain ⟨hr, hc1, hcl, hins⟩ := may_parts hmay
  have HP := Lib.hid hp
  have Hr := Lib.hid hr
  have Hins := Lib.hid hins
  have Hmay := Lib.hid hmay
  have hmk := make_states p.code.length (by omega)
  have hmk8 := make_kn8
  clear hp hr hins hmay
  go_enter Try.func55, Try.ntmps55
  go_upto_region 1 with fail
  obtain ⟨W, gp, hg, hW, hx, bP⟩ := block1 w #[.slice oa p.regs.length capa, .slice oc p.code.length capc] 25
  rw [hW, hg]
  have X := Lib.hid hx
  have BP := Lib.hid bP
  have p1 : W.cell? ⟨gp, 1, none⟩ = some (.slice oc p.code.length capc) := by rw [bP.cell]; rfl
  clear hW hg hx bP
  go_upto_region 2 with fail
  obtain ⟨w1, ks, hg, hW, hx, bT⟩ := block1 W (madeCells #[.bool false, .slice none 0 0] (p.code.length * 2)) 87
  rw [hW, hg]
  have XT := Lib.hid hx
  have BT := Lib.hid bT
  have Hks := Lib.hid hg
  have hgl := bT.lt
  have t0 := ((tab_none bT).at_ (j := 0) (by omega)).1 (by
    unfold tg
    rw [List.getD_eq_getElem?_getD, List.getElem?_replicate, if_pos (by omega)]
    rfl)
  obtain ⟨t0, t1⟩ := t0
  simp only [Nat.zero_mul, Nat.zero_add] at t0 t1
  have hixt := index_tab ks p.code.length p.code.length
  clear hW hx bT p1 hmk hg
  go_upto_region 3 with fail
  obtain ⟨w2, hw2, hP⟩ : ∃ w2, (((w1.setCell ⟨ks, 0, none⟩ (.bool true)).setCell ⟨ks, 1, none⟩ (.slice (some ⟨w1.heap.size, 0, none⟩) 8 8)).alloc (.cells (madeCells #[.int .i64 0, .bool false] 16) 78)) = w2 ∧ TabAt w2 ks p.code.length (firstT p) ∧ Ext W w2 := by
    refine ⟨_, rfl, ?_, ((XT.out.setCell (p := ⟨ks, 0, none⟩) (by have := Hks.out; simp only; omega) _).setCell (p := ⟨ks, 1, none⟩) (by have := Hks.out; simp only; omega) _).alloc _⟩
    have hb := (tab_none BT.out).ext ((Ext.refl w1).alloc (.cells (madeCells #[.int .i64 0, .bool false] 16) 78))
    have hk := kn_start (B := 0) (Blk.new w1 78 (madeCells #[.int .i64 0, .bool false] 16)) (by omega)
    have := hb.put (at_ := 0) (by simp) (by omega) hk
    simp only [Nat.zero_mul, Nat.zero_add] at this
    rw [World.setCell_alloc_past _ _ _ _ hgl, World.setCell_alloc_past _ _ _ _ (by rw [setCell_size]; exact hgl)] at this
    exact this
  have T2 := Lib.hid hP.1
  have X2 := Lib.hid hP.2
  rw [hw2]
  clear hw2 hP t0 t1 hmk8
  obtain ⟨mu, hmu⟩ := mu2_ex (RndS p W ks)
  have Hmu := Lib.hid hmu
  clear hmu
  go_wp2_with fail
  go_loopw [4] (fun v wr => ∃ n, RndS p W ks v wr n) (fun v wr => mu v wr)
  case atStart => exact ⟨_, firstT p, true, rfl, T2.out, X2.out, firstT_tok p (by omega), firstT_under p (by omega), ⟨kstart, by rw [firstT_get p (by omega), if_pos rfl], Sle.refl _⟩, (fun h => by cases h), rfl⟩
  case round =>
    obtain ⟨n0, hn0⟩ := hrel
    obtain ⟨T, again, rfl, hT, hE, hTok, hU, hF, hL, hn⟩ := (Hmu.out _ wr n0 hn0).1
    clear hn0
    have XE := Lib.hid hE
    have HT := Lib.hid hT
    cases again
    · have HL := Lib.hid (hL rfl)
      clear hT hE hTok hU hF hL hn
      go_wp2
      go_ret
      exact ⟨ks, T, rfl, HT.out, HL.out, X.out.trans XE.out⟩
    · have HA := Lib.hid (A6.begin hTok hU hF)
      rw [if_pos rfl] at hn
      have Hn := Lib.hid hn
      clear hT hE hTok hU hF hL hn
      go_wp2_with fail
      obtain ⟨m0, hm0⟩ : ∃ m0, mu (.bool true) wr = m0 := ⟨_, rfl⟩
      have Hm0 := Lib.hid hm0
      rw [hm0] at Hn
      clear hm0
      go_loopw [4, 5] (fun v i wr => ∃ (T' : Tab) (ag : Bool) (a : Nat), v = .bool ag ∧ i = .int .i64 (a : Int) ∧ a ≤ p.code.length ∧ A6 p T T' ag a ∧ TabAt wr ks p.code.length T' ∧ Ext W wr) (fun _ i _ => p.code.length - (intOf i).toNat)
      case atStart => exact ⟨T, false, 0, rfl, rfl, by omega, HA.out, HT.out, XE.out⟩
      case round =>
        obtain ⟨T', ag, a, rfl, rfl, ha, hA, hT, hE⟩ := hrel
        have HA := Lib.hid hA
        have HT := Lib.hid hT
        have XE := Lib.hid hE
        clear hA hE
        by_cases hlt : a < p.code.length
        · cases ht : tg T' a with
          | none =>
            obtain ⟨⟨c0, -⟩, -⟩ := (hT.at_ hlt).1 ht
            have HA2 := Lib.hid (HA.out.skip ht)
            clear hT ht
            go_wp2
            go_roundw
            case rel => exact ⟨T', ag, a + 1, rfl, by go_num, by omega, HA2.out, HT.out, XE.out⟩
            case measure => first | (simp [intOf]; done) | (simp [intOf]; omega)
          | some s =>
            obtain ⟨b, cap, ⟨c0, -⟩, ⟨c1, -⟩, hk⟩ := (hT.at_ hlt).2 s ht
            have HK := Lib.hid (K6.begin HA.out ht)
            have HS := Lib.hid (HA.out.tok.ok a s ht)
            have KN := Lib.hid hk
            have k0 : ∀ Wx, Ext wr Wx → Wx.cell? ⟨ks, a * 2, none⟩ = some (.bool true) := fun _ h => h.kept c0
            have k1 : ∀ Wx, Ext wr Wx → Wx.cell? ⟨ks, a * 2 + 1, none⟩ = some (.slice (some ⟨b, 0, none⟩) 8 cap) := fun _ h => h.kept c1
            have q0 : ∀ Wx, Ext wr Wx → Wx.cell? ⟨gp, 0, none⟩ = some (.slice oa p.regs.length capa) := fun _ h => h.kept (XE.out.kept (by rw [BP.out.cell]; rfl))
            have q1 : ∀ Wx, Ext wr Wx → Wx.cell? ⟨gp, 1, none⟩ = some (.slice oc p.code.length capc) := fun _ h => h.kept (XE.out.kept (by rw [BP.out.cell]; rfl))
            clear hT ht hk
            go_upto_region 10 with fail
            clear c0 c1
            refine region_float [6, 7] 1 (by kernel_rfl) (by kernel_rfl) ?_
            repeat (first | (refine cw_heavy ?_ ?_; (decide)) | (refine cw_value ?_ ?_ ?_; (decide); (first | rfl | (focus (go_simp; done))); apply Exists.intro; refine ⟨fun wc hE => ?_, ?_⟩; (go_simp; exact rfl); go_simp) | (refine cw_skip ?_ ?_ ?_; (decide); (focus (go_simp; done)); go_simp))
            refine cw_nil ?_
            intro w3 hx
            have X3 := Lib.hid hx
            clear k0 k1 q0 q1 hx
            refine wpF_soft rfl ?_
            go_wp2_with fail
            have C := leads6_c p a s Hr.out hcl hlt (Hins.out _ (getD_mem hlt)) w3 (HP.out.ext (X.out.trans (XE.out.trans X3.out))) (KN.out.ext X3.out)
            (with_reducible refine C.mono ?_)
            clear C
            rintro er w4 ⟨ol, capl, rfl, hL, hx⟩
            have HL := Lib.hid hL
            have X4 := Lib.hid (X3.out.trans hx)
            have hB : ks < w3.heap.size := by have := HT.out.lt; have := X3.out.size; omega
            have T4 := Lib.hid (HT.out.ext X4.out)
            have XE4 := Lib.hid (XE.out.trans X4.out)
            generalize hLL : leads6 p a s (insAt p a) = L at *
            have HLL := Lib.hid hLL
            have hL2 : L.length ≤ 2 := by rw [← hLL]; exact leads6_len _ _ _ _
            clear hL hx hLL
            go_wp2
            refine ⟨X4.out, ?_⟩
            refine wpF_hard (heavies_cons rfl (heavies_nil)) ?_
            go_wp2_with fail
            go_loopw [4, 7] (fun v i wr => ∃ (U : Tab) (ag' : Bool) (k : Nat), v = .bool ag' ∧ i = .int .i64 (k : Int) ∧ k ≤ L.length ∧ K6 p T U ag' a s k ∧ TabAt wr ks p.code.length U ∧ LeadsAt wr w3.heap.size (.slice ol L.length capl) L ∧ Ext W wr) (fun _ i _ => L.length - (intOf i).toNat)
            case atStart => exact ⟨T', ag, 0, rfl, rfl, by omega, HK.out, T4.out, HL.out, XE4.out⟩
            case round =>
              obtain ⟨U, ag', k, rfl, rfl, hkl, hK, hT, hL, hE⟩ := hrel
              have HK := Lib.hid hK
              have HT := Lib.hid hT
              have HL := Lib.hid hL
              have XE := Lib.hid hE
              clear hK hE
              by_cases hkk : k < L.length
              · obtain ⟨bl, capl', hv⟩ := hL.form (by omega)
                simp only [Value.slice.injEq, true_and] at hv
                obtain ⟨rfl, rfl⟩ := hv
                obtain ⟨c, capc', l0, l1, l2, hkn⟩ := hL.at_ hkk
                have hixl := index_lead bl L.length capl
                have KX := Lib.hid hkn
                have HX : Hid ((leads6 p a s (insAt p a)).getD k default = L.getD k default) := Lib.hid (by rw [HLL.out])
                have hXS := leadsK_ok p a HS.out (insAt p a) (L.getD k default) (by rw [← leads6_mem, HLL.out]; simp [hkk])
                have HXS := Lib.hid hXS
                have hkk2 : k < (leads6 p a s (insAt p a)).length := by rw [HLL.out]; exact hkk
                generalize L.getD k default = x at *
                obtain ⟨xn, xs⟩ := x
                simp only at l0 hkn
                have HX := Lib.hid HX.out
                have hl7 := block_lt l0
                simp only at hl7
                clear hT hL hXS hkn
                by_cases hbe : p.code.length ≤ xn
                · have HK2 := Lib.hid (HK.out.beyond (by rw [HX.out]; exact hbe))
                  clear hkk2
                  go_wp2
                  go_roundw
                  case rel => exact ⟨U, ag', k + 1, rfl, by go_num, by omega, HK2.out, HT.out, HL.out, XE.out⟩
                  case measure => first | (simp [intOf]; done) | (simp [intOf]; omega)
                · have hxn : xn < p.code.length := by omega
                  have hxd : decide ((p.code.length : Int) ≤ (xn : Int)) = false := decide_eq_false (by omega)
                  have hxd2 : decide (p.code.length ≤ xn) = false := decide_eq_false (by omega)
                  have HJ := Lib.hid (HK.out.join HS.out hkk2 HX.out hxn)
                  have HTL := Lib.hid HK.out.a6.tok.len
                  have HksW := Lib.hid (show W.heap.size ≤ ks by have := Hks.out; omega)
                  clear hbe hkk2
                  cases ht : tg U xn with
                  | none =>
                    obtain ⟨⟨c0, -⟩, ⟨c1, -⟩⟩ := (HT.out.at_ hxn).1 ht
                    have HJT : Hid (joinT U (xn, xs) = U.set xn (some xs)) := Lib.hid (by unfold joinT; simp only [ht])
                    have HJ2 : Hid (K6 p T (U.set xn (some xs)) true a s (k + 1)) := Lib.hid (by
                      have h := HJ.out
                      have hne : U.set xn (some xs) ≠ U := fun e => by
                        have h1 := tg_set U xn xn (some xs)
                        rw [e, ht, if_pos ⟨rfl, by rw [HTL.out]; exact hxn⟩] at h1
                        cases h1
                      rw [HJT.out, decide_eq_true hne, Bool.or_true] at h
                      exact h)
                    have Ht := Lib.hid ht
                    clear ht
                    have hksl := HT.out.lt
                    go_upto_region 16 with fail
                    go_cut [9] (fun s9 wx => Fit9 wr s9 wx xs)
                    case first =>
                      go_region_with (go_at_call 93; refine Calls.mono (join6_none xs c capc' _ (KX.out.ext (by repeat' first | (with_reducible exact Ext.refl _) | (with_reducible refine Ext.drew ?_) | (with_reducible refine Ext.drewN ?_ _) | (with_reducible refine Ext.alloc ?_ _)))) ?_; rintro er w5 ⟨f, capf, rfl, hKf, hx⟩; (try have z0 := kept2 hx (one_new _ _ _ _).1); (try have z1 := kept2 hx (one_new _ _ _ _).2); (try simp only [World.heap_drew] at z0 z1))
                      all_goals (go_wp2_with fail; go_meet; first | (with_reducible exact fit_a hx hKf) | (with_reducible exact fit_b hx hKf) | (exact fit_a hx hKf) | (exact fit_b hx hKf))
                    case rest =>
                      rename World => wx
                      obtain ⟨u, f, capf, rfl, hu, hx, bU, hKf⟩ := hcut
                      have XE5 := Lib.hid (XE.out.trans hx)
                      have T5 := Lib.hid (HT.out.ext hx)
                      have L5 := Lib.hid (HL.out.ext hx)
                      have K5 := Lib.hid hKf
                      have hul := bU.lt
                      have hksl := T5.out.lt
                      have hixt := hixt
                      obtain ⟨g0, g1⟩ := (T5.out.at_ hxn).1 Ht.out
                      have v0 : ∀ Wx, Ext wx Wx → Wx.cell? ⟨u, 0, none⟩ = some (.bool true) := fun _ h => h.kept (by rw [bU.cell]; rfl)
                      have v1 : ∀ Wx, Ext wx Wx → Wx.cell? ⟨u, 1, none⟩ = some (.slice (some ⟨f, 0, none⟩) 8 capf) := fun _ h => h.kept (by rw [bU.cell]; rfl)
                      have d0 : ∀ Wx, Ext wx Wx → Wx.cell? ⟨ks, xn * 2, none⟩ = some (.bool false) := fun _ h => h.kept g0.1
                      have d1 : ∀ Wx, Ext wx Wx → Wx.cell? ⟨ks, xn * 2 + 1, none⟩ = some (.slice none 0 0) := fun _ h => h.kept g1.1
                      have BU := Lib.hid bU
                      clear hx bU hKf
                      go_upto_region 17 with fail
                      refine region_calm 7 (by kernel_rfl) (by kernel_rfl) ?_
                      simp only [List.take_succ_cons, List.take_zero, List.drop_succ_cons, List.drop_zero]
                      repeat (first | (refine calm_fresh ?_ ?_ (fun wc hE => ?_) ?_; (decide); rfl; (focus (go_simp; done)); go_simp) | (refine calm_value ?_ ?_ ?_; (decide); (first | rfl | (focus (go_simp; done))); apply Exists.intro; refine ⟨fun wc hE => ?_, ?_⟩; (go_simp; exact rfl); go_simp) | (refine calm_call ?_ ?_ ?_; (decide); (first | rfl | (focus (go_simp; done))); apply Exists.intro; refine ⟨fun wc hE => ?_, ?_⟩; (go_simp; (first | (with_reducible exact calm_enter (same6_none undef f capf _)))); go_simp) | (refine calm_skip ?_ ?_ ?_; (decide); (focus (go_simp; done)); go_simp))
                      refine calm_nil ?_
                      intro wy hy
                      have XE6 := Lib.hid (XE5.out.trans hy)
                      have T6 := Lib.hid (T5.out.ext hy)
                      have L6 := Lib.hid (L5.out.ext hy)
                      have K6' := Lib.hid (K5.out.ext hy)
                      have BU := Lib.hid (BU.out.ext hy)
                      have g0 := kept2 hy g0
                      have g1 := kept2 hy g1
                      clear hy v0 v1 d0 d1
                      have bU := BU.out
                      have v0 : wy.cell? ⟨u, 0, none⟩ = some (.bool true) := by rw [bU.cell]; rfl
                      have v1 : wy.cell? ⟨u, 1, none⟩ = some (.slice (some ⟨f, 0, none⟩) 8 capf) := by rw [bU.cell]; rfl
                      have hkl2 := T6.out.lt
                      clear bU
                      go_wp2
                      go_roundw
                      case rel =>
                        have hlow : ks < w3.heap.size := hB
                        exact ⟨U.set xn (some xs), true, k + 1, rfl, by go_num, by omega, HJ2.out, T6.out.put HTL.out hxn (K6'.out.mono (Nat.zero_le _)), ((L6.out.low (p := ⟨ks, xn * 2, none⟩) hlow _).low (p := ⟨ks, xn * 2 + 1, none⟩) hlow _), (XE6.out.setCell (p := ⟨ks, xn * 2, none⟩) HksW.out _).setCell (p := ⟨ks, xn * 2 + 1, none⟩) HksW.out _⟩
                      case measure => first | (simp [intOf]; done) | (simp [intOf]; omega)
                  | some t =>
                    obtain ⟨bt, capt, ⟨c0, -⟩, ⟨c1, -⟩, hkt⟩ := (HT.out.at_ hxn).2 t ht
                    have KT := Lib.hid hkt
                    have HJT : Hid (joinT U (xn, xs) = U.set xn (some (sjoin xs t))) := Lib.hid (by unfold joinT; simp only [ht])
                    have hbtl := hkt.lt_
                    have HJ2 : Hid (¬ sjoin t xs = t → K6 p T (U.set xn (some (sjoin t xs))) true a s (k + 1)) := Lib.hid (fun hne => by
                      have h := HJ.out
                      have hn : U.set xn (some (sjoin t xs)) ≠ U := fun e => by
                        have h1 := tg_set U xn xn (some (sjoin t xs))
                        rw [e, ht, if_pos ⟨rfl, by rw [HTL.out]; exact hxn⟩] at h1
                        exact hne (Option.some.inj h1).symm
                      rw [HJT.out, sjoin_comm, decide_eq_true hn, Bool.or_true] at h
                      exact h)
                    have HJ3 : Hid (sjoin t xs = t → K6 p T U ag' a s (k + 1)) := Lib.hid (fun he => by
                      have h := HJ.out
                      have hn : U.set xn (some (sjoin t xs)) = U := by
                        rw [he]
                        exact tg_same ht (by rw [HTL.out]; exact hxn)
                      rw [HJT.out, sjoin_comm, hn] at h
                      simpa using h)
                    have Ht := Lib.hid ht
                    clear ht hkt
                    have hksl := HT.out.lt
                    go_upto_region 16 with fail
                    go_cut [9] (fun s9 wx => Fit9 wr s9 wx (sjoin t xs))
                    case first =>
                      go_region_with (go_at_call 93; refine Calls.mono (join6_c t xs bt capt c capc' _ (KT.out.ext (by repeat' first | (with_reducible exact Ext.refl _) | (with_reducible refine Ext.drew ?_) | (with_reducible refine Ext.drewN ?_ _) | (with_reducible refine Ext.alloc ?_ _))) (KX.out.ext (by repeat' first | (with_reducible exact Ext.refl _) | (with_reducible refine Ext.drew ?_) | (with_reducible refine Ext.drewN ?_ _) | (with_reducible refine Ext.alloc ?_ _)))) ?_; rintro er w5 ⟨f, capf, rfl, hKf, hx⟩; (try have z0 := kept2 hx (one_new _ _ _ _).1); (try have z1 := kept2 hx (one_new _ _ _ _).2); (try simp only [World.heap_drew] at z0 z1))
                      all_goals (go_wp2_with fail; go_meet; first | (with_reducible exact fit_a hx hKf) | (with_reducible exact fit_b hx hKf) | (exact fit_a hx hKf) | (exact fit_b hx hKf))
                    case rest =>
                      rename World => wx
                      obtain ⟨u, f, capf, rfl, hu, hx, bU, hKf⟩ := hcut
                      have XE5 := Lib.hid (XE.out.trans hx)
                      have T5 := Lib.hid (HT.out.ext hx)
                      have L5 := Lib.hid (HL.out.ext hx)
                      have K5 := Lib.hid hKf
                      have hul := bU.lt
                      have hksl := T5.out.lt
                      have hixt := hixt
                      obtain ⟨bt', capt', g0, g1, hkt⟩ := (T5.out.at_ hxn).2 t Ht.out
                      have v0 : ∀ Wx, Ext wx Wx → Wx.cell? ⟨u, 0, none⟩ = some (.bool true) := fun _ h => h.kept (by rw [bU.cell]; rfl)
                      have v1 : ∀ Wx, Ext wx Wx → Wx.cell? ⟨u, 1, none⟩ = some (.slice (some ⟨f, 0, none⟩) 8 capf) := fun _ h => h.kept (by rw [bU.cell]; rfl)
                      have d0 : ∀ Wx, Ext wx Wx → Wx.cell? ⟨ks, xn * 2, none⟩ = some (.bool true) := fun _ h => h.kept g0.1
                      have d1 : ∀ Wx, Ext wx Wx → Wx.cell? ⟨ks, xn * 2 + 1, none⟩ = some ((.slice (some ⟨bt', 0, none⟩) 8 capt')) := fun _ h => h.kept g1.1
                      have BU := Lib.hid bU
                      have KT5 := Lib.hid hkt
                      clear hx bU hKf hkt
                      generalize sjoin t xs = j6 at *
                      go_upto_region 17 with fail
                      refine region_calm 7 (by kernel_rfl) (by kernel_rfl) ?_
                      simp only [List.take_succ_cons, List.take_zero, List.drop_succ_cons, List.drop_zero]
                      repeat (first | (refine calm_fresh ?_ ?_ (fun wc hE => ?_) ?_; (decide); rfl; (focus (go_simp; done)); go_simp) | (refine calm_value ?_ ?_ ?_; (decide); (first | rfl | (focus (go_simp; done))); apply Exists.intro; refine ⟨fun wc hE => ?_, ?_⟩; (go_simp; exact rfl); go_simp) | (refine calm_call ?_ ?_ ?_; (decide); (first | rfl | (focus (go_simp; done))); apply Exists.intro; refine ⟨fun wc hE => ?_, ?_⟩; (go_simp; (first | (with_reducible exact calm_enter (same6_c j6 t f capf bt' capt' _ (K5.out.ext (by assumption)) (KT5.out.ext (by assumption)))))); go_simp) | (refine calm_skip ?_ ?_ ?_; (decide); (focus (go_simp; done)); go_simp))
                      refine calm_nil ?_
                      intro wy hy
                      have XE6 := Lib.hid (XE5.out.trans hy)
                      have T6 := Lib.hid (T5.out.ext hy)
                      have L6 := Lib.hid (L5.out.ext hy)
                      have K6' := Lib.hid (K5.out.ext hy)
                      have BU := Lib.hid (BU.out.ext hy)
                      have g0 := kept2 hy g0
                      have g1 := kept2 hy g1
                      clear hy v0 v1 d0 d1
                      by_cases hj : j6 = t
                      · have hd : decide (j6 = t) = true := by simpa using hj
                        have HJ4 := Lib.hid (HJ3.out hj)
                        rw [hd]
                        clear hj
                        go_wp2
                        go_roundw
                        case rel => exact ⟨U, ag', k + 1, rfl, by go_num, by omega, HJ4.out, T6.out, L6.out, XE6.out⟩
                        case measure => first | (simp [intOf]; done) | (simp [intOf]; omega)
                      · have hd : decide (j6 = t) = false := by simpa using hj
                        have HJ2 := Lib.hid (HJ2.out hj)
                        rw [hd]
                        clear hj
                        have bU := BU.out
                        have v0 : wy.cell? ⟨u, 0, none⟩ = some (.bool true) := by rw [bU.cell]; rfl
                        have v1 : wy.cell? ⟨u, 1, none⟩ = some (.slice (some ⟨f, 0, none⟩) 8 capf) := by rw [bU.cell]; rfl
                        have hkl2 := T6.out.lt
                        clear bU
                        go_wp2
                        go_roundw
                        case rel =>
                          have hlow : ks < w3.heap.size := hB
                          exact ⟨U.set xn (some j6), true, k + 1, rfl, by go_num, by omega, HJ2.out, T6.out.put HTL.out hxn (K6'.out.mono (Nat.zero_le _)), ((L6.out.low (p := ⟨ks, xn * 2, none⟩) hlow _).low (p := ⟨ks, xn * 2 + 1, none⟩) hlow _), (XE6.out.setCell (p := ⟨ks, xn * 2, none⟩) HksW.out _).setCell (p := ⟨ks, xn * 2 + 1, none⟩) HksW.out _⟩
                        case measure => first | (simp [intOf]; done) | (simp [intOf]; omega)
              · have hje : k = L.length := by omega
                subst hje
                have HA2 := Lib.hid (HK.out.end_ (by rw [HLL.out]; exact Nat.le_refl _))
                have hlt2 : decide ((L.length : Int) < (L.length : Int)) = false := by simp
                clear hT hL
                go_wp2
                go_roundw
                case rel => exact ⟨U, ag', a + 1, rfl, by go_num, by omega, HA2.out, HT.out, XE.out⟩
                case measure => first | (simp [intOf]; done) | (simp [intOf]; omega)
        · have hje : a = p.code.length := by omega
          subst hje
          have hlt2 : decide ((p.code.length : Int) < (p.code.length : Int)) = false := by simp
          have HR : Hid (RndS p W ks (.bool ag) wr (if ag = true then phi T' + 1 else 0)) := Lib.hid ⟨T', ag, rfl, HT.out, XE.out, HA.out.tok, HA.out.under, HA.out.first, fun e => by subst e; exact HA.out.least (Nat.le_refl _), rfl⟩
          have HM : Hid (mu (.bool ag) wr < m0) := Lib.hid (by
            have h1 := (Hmu.out _ _ _ HR.out).2
            have h2 := Hn.out
            cases ag
            · simp only [if_false, Bool.false_eq_true] at h1
              omega
            · have h3 := HA.out.some_ rfl
              simp only [if_true] at h1
              omega)
          clear hT
          go_wp2
          go_roundw
          case rel => exact ⟨_, HR.out⟩
          case measure => rw [Hm0.out]; exact HM.out
end Go.Proofs.Yteiknefajlocoaa
