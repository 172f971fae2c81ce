/- Laid together from: Ck7, Hm. -/
import Derived.Test.YtmfgckfflkddcaaFenceQuietB36
import Derived.Test.YtmfgckfflkddcaaFenceQuietB37
import Derived.Test.YtmfgckfflkddcaaFenceQuietB5
import Derived.Test.YtmfgckfflkddcaaFenceQuietB20
import Derived.Deep.OwnRows
import Derived.Test.YtmfgckfflkddcaaFenceQuietB26
import Derived.Test.YtmfgckfflkddcaaFenceQuietB23

namespace Go.Proofs.Ytmfgckfflkddcaa
open Go.ChangeShapes Go.WideShapes Go.ChangeAt Go.RowKit
set_option linter.unusedVariables false
set_option linter.unusedSimpArgs false
theorem ck_index (k n cap : Nat) (W : World) (i : Int) (h0 : 0 ≤ i) (h1 : i < n) :
    (Instr.indexAt 36 (.slice (some ⟨k, 0, none⟩) n cap) (.int .i64 i)).run Try.prog W = .ok (.pointer (some ⟨k, i.toNat, none⟩)) W := by
  have hs : (Try.prog.info? 3).map (·.size) = some 1 := by kernel_rfl
  simp [Instr.indexAt, run_underlying Try.underlying36, asIntOf, h0, h1]
  have := addr_add k 0 i.toNat
  simpa using this
theorem ck_own_at {w : World} {B : Nat} {e : TypeId} {v : Value} {n : Nat} {xs : List Value} (h : w.ownsRow B e 1 v n xs) (hn : 0 < n) : ∃ k cap, v = .slice (some ⟨k, 0, none⟩) n cap ∧ B ≤ k ∧ ∀ j x, j < n → xs[j]? = some x → w.cell? ⟨k, j, none⟩ = some x ∧ w.frozen? ⟨k, j, none⟩ = false := by
  have h' := h
  rcases h.2 with ⟨-, h0⟩ | ⟨k, cap, cur, rfl, a1, a2, a3⟩
  · omega
  · exact ⟨k, cap, rfl, a1, fun j x hj hx => ⟨by rw [h'.cellAt j (by omega), hx], h'.frozenAt j⟩⟩
theorem ck_own_cap {w : World} {B k n cap : Nat} {e : TypeId} {s : Nat} {xs : List Value} (h : w.ownsRow B e s (.slice (some ⟨k, 0, none⟩) n cap) n xs) : n ≤ cap ∧ cap ≤ maxLen := by
  rcases h.2 with ⟨h0, -⟩ | ⟨k', cap', cur, hh, a1, a2, a3, a4, -⟩
  · cases h0
  · simp only [Value.slice.injEq, Option.some.injEq, Addr.mk.injEq, and_true, true_and] at hh
    obtain ⟨rfl, rfl⟩ := hh
    exact ⟨a3, a4⟩
theorem own_pop {w : World} {B n cap : Nat} {oa : Option Addr} {e : TypeId} {xs : List Value} {x : Value} (h : w.ownsRow B e 1 (.slice oa (n + 1) cap) (n + 1) (xs ++ [x])) : w.ownsRow B e 1 (.slice oa n cap) n xs := by
  obtain ⟨h0, h⟩ := h
  have hl : xs.length = n := by simp at h0; omega
  refine ⟨by omega, ?_⟩
  rcases h with ⟨h1, h2⟩ | ⟨g, c, cur, h1, h2, h3, h4, h5, h6, h7⟩
  · omega
  · simp only [Value.slice.injEq, true_and] at h1
    obtain ⟨rfl, rfl⟩ := h1
    refine .inr ⟨g, cap, cur, rfl, h2, h3, by omega, h5, h6, ?_⟩
    have h8 : (cur.toList.take ((n + 1) * 1)).take n = (xs ++ [x]).take n := by rw [h7]
    rw [List.take_take, Nat.mul_one, Nat.min_eq_left (by omega), List.take_append_of_le_length (by omega), List.take_of_length_le (l := xs) (by omega)] at h8
    rw [Nat.mul_one]
    exact h8
theorem CSt.pop {w : World} {B g ks n cap : Nat} {vR vC : Value} {oa : Option Addr} {p : LProg} {T : Tab} {wk : List Int} {x : Int} (h : CSt w B g ks vR vC (.slice oa (n + 1) cap) p T (wk ++ [x])) (hn : wk.length = n) :
    CSt (w.setCell ⟨g, 3, none⟩ (.slice oa n cap)) B g ks vR vC (.slice oa n cap) p T wk := by
  have ho := h.wk
  have hl : (wk ++ [x]).length = n + 1 := by simp [hn]
  rw [hl, List.map_append] at ho
  have ho := own_pop ho
  have hne : some g ≠ (Value.slice oa n cap).ownBlock := own_ne ho h.box (by decide)
  refine ⟨h.box.set_ 3 _, h.row.far (p := ⟨g, 3, none⟩) h.box (by decide) (by decide) _, ?_, h.tok, h.hg, h.hk⟩
  rw [hn]
  exact own_far ho hne _
theorem least_some {P : Nat → Prop} (h : ∃ n, P n) : ∃ n, P n ∧ ∀ m, P m → n ≤ m := by
  obtain ⟨n, hn⟩ := h
  induction n using Nat.strongRecOn with
  | ind n ih =>
    by_cases hs : ∃ m, m < n ∧ P m
    · obtain ⟨m, h1, h2⟩ := hs
      exact ih m h1 h2
    · exact ⟨n, hn, fun m hm => by
        rcases Nat.lt_or_ge m n with h1 | h1
        · exact absurd ⟨m, h1, hm⟩ hs
        · exact h1⟩
theorem mu_ex (P : World → Nat → Prop) : ∃ mu : World → Nat, ∀ w n, P w n → P w (mu w) ∧ mu w ≤ n := by
  refine ⟨fun w => Classical.epsilon fun n => P w n ∧ ∀ m, P w m → n ≤ m, fun w n h => ?_⟩
  have := Classical.epsilon_spec (least_some ⟨n, h⟩)
  exact ⟨this.1, this.2 n h⟩
def Rnd (p : LProg) (w0 : World) (g ks : Nat) (vR vC : Value) (w : World) (n : Nat) : Prop :=
  ∃ (T : Tab) (wk : List Int) (vK : Value), meas T wk = n ∧ n ≤ 87001 ∧ Work p T wk (fun _ => False) ∧ CSt w w0.heap.size g ks vR vC vK p T wk ∧ Ext w0 w
def CheckPost (p : LProg) (w : World) (e : Ending) (w' : World) : Prop :=
  ∃ F : Int × Nat, e = .returned (.agg #[.int .i64 F.1, .int .i64 (F.2 : Int)]) ∧ Ext w w' ∧ (mayOk p = true → ∃ T, Least p T ∧ F = faultOf p T) ∧ (mayOk p = false → F = (2, 0))
theorem faultFrom_nil {p : LProg} {T : Tab} {n k : Nat} (h : tg T k = none) : faultFrom p T (n + 1) k = faultFrom p T n (k + 1) := by rw [faultFrom, h]
theorem faultFrom_some {p : LProg} {T : Tab} {n k : Nat} {s : KSt} (h : tg T k = some s) : faultFrom p T (n + 1) k = if !boundK p k s (insAt p k) then (4, k) else if !quietK p s (insAt p k) then (5, k) else faultFrom p T n (k + 1) := by rw [faultFrom, h]
theorem infoFault : (Try.prog.info? 38).map (·.size) = some 2 := by kernel_rfl
theorem infoPtr : (Try.prog.info? 118).map (fun i => (i.zero, i.size, i.bytes)) = some (some (.pointer none), 1, 8) := by kernel_rfl
theorem ptr_nil (k : Nat) (w : World) : (binOp .eql 118 (.pointer (some ⟨k, 0, none⟩)) (.pointer none)).run Try.prog w = .ok (.bool false) w := by
  first | (kernel_rfl; done) | (go_simp; done)
theorem flt_put {w : World} {g : Nat} {T : TypeId} {a b x y : Value} (h : Blk w g T #[a, b]) : Blk ((w.setCell ⟨g, 0, none⟩ x).setCell ⟨g, 1, none⟩ y) g T #[x, y] := (h.set_ 0 x).set_ 1 y
theorem flt_ext {w w1 : World} {g : Nat} {x y : Value} (h : Ext w w1) (hg : w.heap.size ≤ g) : Ext w ((w1.setCell ⟨g, 0, none⟩ x).setCell ⟨g, 1, none⟩ y) := (h.setCell hg _).setCell hg _
theorem row_none (w : World) (k n B : Nat) (hb : Blk w k 118 (madeCells #[.pointer none] n)) : RowAt w B k n (List.replicate n none) := by
  refine ⟨_, hb, by simp [madeCells], fun j hj => ?_⟩
  have : tg (List.replicate n (none : Option KSt)) j = none := by
    unfold tg
    rw [List.getD_eq_getElem?_getD, List.getElem?_replicate, if_pos hj]
    rfl
  rw [this]
  simp [madeCells, hj, Nat.mod_one]
set_option maxRecDepth 100000 in
set_option maxHeartbeats 8000000 in
theorem check_c (p : LProg) (v : Value) (w : World) (hp : ProgAt w v p) : Calls Try.prog 33 #[v] w (CheckPost p w) := by
  have HP := Lib.hid hp
  obtain ⟨oa, capa, oc, capc, rfl⟩ : ∃ a b c d, v = .agg #[.slice a p.regs.length b, .slice c p.code.length d] := by
    obtain ⟨v1, v2, rfl, ⟨-, oa, cap, b, o, rfl, -⟩, ⟨-, ob, capb, b2, o2, rfl, -⟩⟩ := hp
    exact ⟨_, _, _, _, rfl⟩
  clear hp
  go_enter Try.func33, Try.ntmps33
  go_upto_region 1 with fail
  obtain ⟨W, gb, hg, hW, hx, bP, bF⟩ := blocks2 w #[.slice oa p.regs.length capa, .slice oc p.code.length capc] #[.int .i64 0, .int .i64 0] 25 38
  rw [hW, hg]
  have X := Lib.hid hx
  have hgb : w.heap.size ≤ gb := by omega
  have Hgb := Lib.hid hgb
  have p0 : W.cell? ⟨gb, 0, none⟩ = some (.slice oa p.regs.length capa) := by rw [bP.cell]; rfl
  have p1 : W.cell? ⟨gb, 1, none⟩ = some (.slice oc p.code.length capc) := by rw [bP.cell]; rfl
  clear hW hg hx
  go_wp2_with fail
  have C := may_c p _ W (HP.out.ext X.out)
  (with_reducible refine C.mono ?_)
  clear C
  rintro e w1 ⟨rfl, hx⟩
  have bP := bP.ext hx
  have bF := bF.ext hx
  have X := Lib.hid (X.out.trans hx)
  have p0 := hx.kept p0
  have p1 := hx.kept p1
  have f0 : w1.cell? ⟨gb + 1, 0, none⟩ = some (.int .i64 0) ∧ w1.frozen? ⟨gb + 1, 0, none⟩ = false := ⟨by rw [bF.cell]; rfl, bF.frozen _⟩
  have f1 : w1.cell? ⟨gb + 1, 1, none⟩ = some (.int .i64 0) ∧ w1.frozen? ⟨gb + 1, 1, none⟩ = false := ⟨by rw [bF.cell]; rfl, bF.frozen _⟩
  have hgl := bF.lt
  clear hx hgb
  cases hmay : mayOk p
  · have BF := Lib.hid bF
    have BP := Lib.hid bP
    clear bF bP
    go_wp2
    exact bodyPost_ret (results_blk (flt_put BF.out) rfl _ rfl Try.underlying38 rfl infoFault) rfl ⟨(2, 0), rfl, flt_ext X.out (by have := Hgb.out; omega), fun h => (by rw [hmay] at h; cases h), fun _ => rfl⟩
  · obtain ⟨hr, hc1, hcl, hins⟩ := may_parts hmay
    have Hr := Lib.hid hr
    have Hins := Lib.hid hins
    have Hmay := Lib.hid hmay
    have hmk : ∀ wx, (Instr.makeSlice 112 (.int .i64 (p.code.length : Int)) (.int .i64 (p.code.length : Int))).run Try.prog wx = .ok (.slice (some ⟨wx.heap.size, 0, none⟩) p.code.length p.code.length) (wx.alloc (.cells (madeCells #[.pointer none] p.code.length) 118)) := fun wx =>
      run_make_row' (P := Try.prog) 112 118 (.pointer none) 8 Try.underlying112 infoPtr rfl .i64 .i64 p.code.length (by omega) (by omega) wx
    clear hr hins hmay
    go_upto_region 3 with fail
    have kp0 : ∀ W, Ext w1 W → W.cell? ⟨gb, 0, none⟩ = some (.slice oa p.regs.length capa) := fun _ h => h.kept p0
    have kp1 : ∀ W, Ext w1 W → W.cell? ⟨gb, 1, none⟩ = some (.slice oc p.code.length capc) := fun _ h => h.kept p1
    have BF := Lib.hid bF
    have BP := Lib.hid bP
    clear f0 f1 bF bP
    refine region_float [4, 5, 6, 7] 3 (by kernel_rfl) (by kernel_rfl) ?_
    repeat (first | (refine cw_heavy ?_ ?_; (decide)) | (refine cw_value ?_ ?_ ?_; (decide); (first | rfl | (focus (go_simp; done))); apply Exists.intro; refine ⟨fun wc hE => ?_, ?_⟩; (go_simp; exact rfl); go_simp) | (refine cw_skip ?_ ?_ ?_; (decide); (focus (go_simp; done)); go_simp))
    refine cw_nil ?_
    intro w2 hx
    clear kp0 kp1 p0 p1
    refine wpF_soft rfl ?_
    go_wp2
    refine ⟨hx.alloc _, ?_⟩
    refine wpF_soft rfl ?_
    go_wp2
    refine ⟨hx.alloc _, ?_⟩
    refine wpF_soft rfl ?_
    go_wp2
    refine ⟨(hx.alloc _).alloc _, ?_⟩
    refine wpF_hard (heavies_cons rfl heavies_nil) ?_
    obtain ⟨w3, hw3, hP3⟩ : ∃ w3, ((w2.alloc (.cells (madeCells #[.pointer none] p.code.length) 118)).alloc (.cells #[.slice oa p.regs.length capa, .slice oc p.code.length capc, .slice (some ⟨w2.heap.size, 0, none⟩) p.code.length p.code.length, .slice none 0 0] 114)) = w3 ∧
        CSt w3 w1.heap.size (w2.heap.size + 1) w2.heap.size (.slice oa p.regs.length capa) (.slice oc p.code.length capc) (.slice none 0 0) p (List.replicate p.code.length none) [] ∧ Ext w1 w3 := by
      have hz := hx.size
      have b1 := Blk.new w2 118 (madeCells #[.pointer none] p.code.length)
      refine ⟨_, rfl, ⟨?_, row_none _ _ _ _ (b1.alloc _), World.ownsRow_nil _ _ _ _, ⟨by simp, fun k s hk => ?_⟩, by omega, by omega⟩, (hx.alloc _).alloc _⟩
      · have := Blk.new (w2.alloc (.cells (madeCells #[.pointer none] p.code.length) 118)) 114 #[.slice oa p.regs.length capa, .slice oc p.code.length capc, .slice (some ⟨w2.heap.size, 0, none⟩) p.code.length p.code.length, .slice none 0 0]
        simpa using this
      · exfalso
        unfold tg at hk
        rw [List.getD_eq_getElem?_getD, List.getElem?_replicate] at hk
        split at hk <;> cases hk
    have hP3 := Lib.hid hP3
    try rw [hw3]
    clear hw3
    generalize w2.heap.size = ks at *
    generalize ks + 1 = g at *
    clear hx hmk
    have hk8 : kstart.length = 8 := rfl
    have Hcl := Lib.hid hcl
    go_wp2_with fail
    rw [st0]
    have C := lead_c p 0 kstart kstart_ok hcl (by simp) w3 hP3.out.1
    have e00 : ((0 : Nat) : Int) = 0 := rfl
    rw [e00] at C
    (with_reducible refine C.mono ?_)
    clear C
    rintro e w4 ⟨rfl, vK, P4, T4⟩
    have hl1 := lead_first p hc1
    rw [hl1.1, hl1.2] at P4
    have E4 := Lib.hid (Below.trans hP3.out.2 (lead_below hP3.out.1 T4))
    have P4 := Lib.hid P4
    clear T4 hl1 hP3
    obtain ⟨mu, hmu⟩ := mu_ex (Rnd p w1 g ks (.slice oa p.regs.length capa) (.slice oc p.code.length capc))
    have Hmu := Lib.hid hmu
    clear hmu
    go_wp2_with fail
    go_loopw [] (fun wr => ∃ n, Rnd p w1 g ks (.slice oa p.regs.length capa) (.slice oc p.code.length capc) wr n) (fun wr => mu wr)
    case atStart => exact ⟨_, _, _, _, rfl, meas_first p hcl, work_first p (by omega), P4.out, E4.out⟩
    case round =>
      obtain ⟨n0, hn0⟩ := hrel
      obtain ⟨T, wk, vK, hm, hmb, hw, P, hE⟩ := (Hmu.out wr n0 hn0).1
      clear hn0
      have PP := Lib.hid P
      have XE := Lib.hid hE
      have HW := Lib.hid hw
      have Hm := Lib.hid hm
      have Hmb := Lib.hid hmb
      have hwl : wk.length ≤ 87001 := by unfold meas at hm; omega
      obtain ⟨-, -, g2, g3⟩ := P.cells
      have hgl2 := P.box.lt
      by_cases hne : 0 < wk.length
      · obtain ⟨wk', x, rfl⟩ := work_last hne
        obtain ⟨k, rfl, hk, s, hs⟩ := hw.elems x (by simp)
        have hl : (wk' ++ [(k : Int)]).length = wk'.length + 1 := by simp
        obtain ⟨kb, capb, hvb, hkb, hcs⟩ := ck_own_at P.wk hne
        obtain ⟨hx0, -⟩ := hcs wk'.length (.int .i64 (k : Int)) (by omega) (by simp)
        subst hvb
        have hcap := ck_own_cap P.wk
        rw [hl] at g3 hcap hwl
        have P := PP.out
        rw [hl] at P
        have Hs := Lib.hid hs
        obtain ⟨N, hN⟩ : ∃ N, wk'.length = N := ⟨_, rfl⟩
        rw [hN] at g3 hcap hwl hx0 P
        have PP := Lib.hid P
        have HN := Lib.hid hN
        have hcap1 := hcap.1
        have hwrN : IntKind.i64.wrap (N : Int) = (N : Int) := Go.IntWalk.i64_in _ (by omega)
        have hsB : (N : Int) ≤ (capb : Int) := by omega
        have hsD : ¬ capb = 0 := by omega
        have hixb : ∀ W, (Instr.indexAt 36 (.slice (some ⟨kb, 0, none⟩) (N + 1) capb) (.int .i64 (N : Int))).run Try.prog W = .ok (.pointer (some ⟨kb, N, none⟩)) W := fun W => by
          have := ck_index kb (N + 1) capb W (N : Int) (by omega) (by omega)
          simpa using this
        clear hcs hl hw P hE hm hmb hne hs hN
        go_upto_region 6 with fail
        have k3 : ∀ W, Ext wr W → W.cell? ⟨g, 3, none⟩ = some (.slice (some ⟨kb, 0, none⟩) (N + 1) capb) := fun _ h => h.kept g3.1
        have kx : ∀ W, Ext wr W → W.cell? ⟨kb, N, none⟩ = some (.int .i64 (k : Int)) := fun _ h => h.kept hx0
        refine region_calm 13 (by kernel_rfl) (by kernel_rfl) ?_
        simp only [List.take_succ_cons, List.take_zero, List.drop_succ_cons, List.drop_zero]
        repeat (first | (refine calm_fresh ?_ ?_ (fun wc hE => ?_) ?_; (decide); rfl; (focus (go_simp; done)); go_simp) | (refine calm_value ?_ ?_ ?_; (decide); (first | rfl | (focus (go_simp; done))); apply Exists.intro; refine ⟨fun wc hE => ?_, ?_⟩; (go_simp; exact rfl); go_simp) | (refine calm_call ?_ ?_ ?_; (decide); (first | rfl | (focus (go_simp; done))); apply Exists.intro; refine ⟨fun wc hE => ?_, ?_⟩; (go_simp; (first | fail)); go_simp) | (refine calm_skip ?_ ?_ ?_; (decide); (focus (go_simp; done)); go_simp))
        refine calm_nil ?_
        intro w5 hx
        clear k3 kx hx0 g2
        have g3 := kept2 hx g3
        have PP := Lib.hid (PP.out.ext hx)
        have XE := Lib.hid (XE.out.trans hx)
        have hgl2 := PP.out.box.lt
        clear hx hixb
        go_upto_region 7 with fail
        have k3 : ∀ W, Ext w5 W → W.cell? ⟨g, 3, none⟩ = some (.slice (some ⟨kb, 0, none⟩) (N + 1) capb) := fun _ h => h.kept g3.1
        refine region_float [14] 0 (by kernel_rfl) (by kernel_rfl) ?_
        repeat (first | (refine cw_heavy ?_ ?_; (decide)) | (refine cw_value ?_ ?_ ?_; (decide); (first | rfl | (focus (go_simp; done))); apply Exists.intro; refine ⟨fun wc hE => ?_, ?_⟩; (go_simp; exact rfl); go_simp) | (refine cw_skip ?_ ?_ ?_; (decide); (focus (go_simp; done)); go_simp))
        refine cw_nil ?_
        intro w6 hx
        clear k3
        have g3 := kept2 hx g3
        have PP := PP.out.ext hx
        have XE := XE.out.trans hx
        have hgl2 := PP.box.lt
        refine wpF_hard (heavies_cons rfl heavies_nil) ?_
        obtain ⟨w7, hw7, hP7⟩ : ∃ w7, w6.setCell ⟨g, 3, none⟩ (.slice (some ⟨kb, 0, none⟩) N capb) = w7 ∧ CSt w7 w1.heap.size g ks (.slice oa p.regs.length capa) (.slice oc p.code.length capc) (.slice (some ⟨kb, 0, none⟩) N capb) p T wk' ∧ Ext w1 w7 :=
          ⟨_, rfl, PP.pop HN.out, XE.setCell (p := ⟨g, 3, none⟩) PP.hg _⟩
        have P7 := Lib.hid hP7.1
        have X7 := Lib.hid hP7.2
        clear hx XE PP hP7
        go_upto_region 8 with fail
        try rw [hw7]
        clear g3 hgl2 hw7
        obtain ⟨-, -, g2, -⟩ := P7.out.cells
        have hgl2 := P7.out.box.lt
        obtain ⟨kk, q0, hkk, bS⟩ := (P7.out.row_at hk).2 s Hs.out
        have hq0 := block_lt q0.1
        have hkl := bS.lt
        have hso := P7.out.tok.ok k s Hs.out
        have hst : ∀ W, (Instr.indexAt 112 (.slice (some ⟨ks, 0, none⟩) p.code.length p.code.length) (.int .i64 (k : Int))).run Try.prog W = .ok (.pointer (some ⟨ks, k, none⟩)) W := fun W => by
          have := index_sts W ks p.code.length p.code.length (k : Int) (by omega) (by omega)
          simpa using this
        have hl8 := hso.len
        have Hso := Lib.hid hso
        clear hso
        go_wp2_with (first | ((with_reducible refine load_all bS ?_ Try.underlying117 ?_ ?_ ?_); rfl; rfl; (rw [stV_size hl8]; exact infoState')) | fail)
        have C := one_c p k s Hso.out Hr.out Hcl.out hk (Hins.out _ (getD_mem hk)) (by rw [HN.out]; omega) w7 (HP.out.ext (X.out.trans X7.out)) P7.out
        (with_reducible refine C.mono ?_)
        clear C
        rintro e w8 ⟨rfl, vK', P8, B8⟩
        have HR := work_round HW.out Hs.out
        have Hnew : Rnd p w1 g ks (.slice oa p.regs.length capa) (.slice oc p.code.length capc) w8 (meas (leadAll p (leadsK p k s (insAt p k)) (T, wk')).1 (leadAll p (leadsK p k s (insAt p k)) (T, wk')).2) :=
          ⟨_, _, vK', rfl, by have := Hm.out; have := Hmb.out; have := HR.2; omega, HR.1, P8, Below.trans X7.out B8⟩
        have Hnew := Lib.hid Hnew
        have Hless : Hid (mu w8 < mu wr) := Lib.hid (by
          have h1 := (Hmu.out _ _ Hnew.out).2
          have h2 := HR.2
          have h3 := Hm.out
          omega)
        clear HR P8 B8 bS g2 q0
        go_wp2
        go_roundw
        case rel => exact ⟨_, Hnew.out⟩
        case measure => exact Hless.out
      · have hwk : wk = [] := by
          cases wk with
          | nil => rfl
          | cons a b => simp at hne
        subst hwk
        have HL := Lib.hid (work_least hw)
        obtain ⟨ok, okc, rfl⟩ := own_slice P.wk
        have hl0 : (([] : List Int).length : Nat) = 0 := rfl
        rw [hl0] at g3
        clear hw P hE hm hmb hne HW Hm Hmb Hmu hl0
        rename World => wA
        go_wp2_with fail
        go_loopw [70] (fun i wr => ∃ j : Nat, j ≤ p.code.length ∧ i = .int .i64 j ∧ Ext wA wr ∧ faultFrom p T (p.code.length - j) j = faultOf p T) (fun i _ => p.code.length - (intOf i).toNat)
        case atStart => exact ⟨0, by omega, rfl, Ext.refl _, rfl⟩
        case round =>
          obtain ⟨j, hj, rfl, hE2, hF⟩ := hrel
          have P := PP.out.ext hE2
          have X2 := Lib.hid hE2
          have HF := Lib.hid hF
          clear g2 g3 hgl2
          obtain ⟨-, -, g2, -⟩ := P.cells
          have hgl2 := P.box.lt
          clear hE2 hF
          by_cases hlt : j < p.code.length
          · have hst : ∀ W, (Instr.indexAt 112 (.slice (some ⟨ks, 0, none⟩) p.code.length p.code.length) (.int .i64 (j : Int))).run Try.prog W = .ok (.pointer (some ⟨ks, j, none⟩)) W := fun W => by
              have := index_sts W ks p.code.length p.code.length (j : Int) (by omega) (by omega)
              simpa using this
            have hnj : p.code.length - j = (p.code.length - (j + 1)) + 1 := by omega
            cases ht : tg T j with
            | none =>
              obtain ⟨q0, -⟩ := (P.row_at hlt).1 ht
              have Hn := Lib.hid (show faultFrom p T (p.code.length - (j + 1)) (j + 1) = faultOf p T by rw [← HF.out, hnj, faultFrom_nil ht])
              clear P ht hnj
              go_wp2
              go_roundw
              case rel => exact ⟨j + 1, by omega, by go_num, X2.out, Hn.out⟩
              case measure => first | (simp [intOf]; done) | (simp [intOf]; omega)
            | some s =>
              obtain ⟨kk, q0, hkk, bS⟩ := (P.row_at hlt).2 s ht
              have hq0 := block_lt q0.1
              have hkl := bS.lt
              have hso := P.tok.ok j s ht
              have hl8 := hso.len
              have Hso := Lib.hid hso
              have hpn := ptr_nil kk
              have BS := Lib.hid bS
              have Hf := Lib.hid (faultFrom_some (p := p) (n := p.code.length - (j + 1)) ht)
              have HF2 : Hid (faultFrom p T (p.code.length - (j + 1) + 1) j = faultOf p T) := Lib.hid (by rw [← hnj]; exact HF.out)
              clear hso hnj ht
              go_wp2_with (first | ((with_reducible refine load_all bS ?_ Try.underlying117 ?_ ?_ ?_); rfl; rfl; (rw [stV_size hl8]; exact infoState')) | fail)
              have C := bound_c p j s Hso.out Hr.out Hcl.out hlt (Hins.out _ (getD_mem hlt)) wr (HP.out.ext (X.out.trans (XE.out.trans X2.out))) P
              (with_reducible refine C.mono ?_)
              clear C
              rintro e w5 ⟨rfl, hx⟩
              have P := P.ext hx
              have X2 := Lib.hid (X2.out.trans hx)
              have bS := BS.out.ext hx
              have BS := Lib.hid bS
              have q0 := kept2 hx q0
              have hkl := bS.lt
              have hq0 := block_lt q0.1
              clear hx
              cases hb : boundK p j s (insAt p j)
              · have HE := Lib.hid (show ((4 : Int), j) = faultOf p T by rw [← HF2.out, Hf.out, hb]; rfl)
                have bF := BF.out.ext (XE.out.trans X2.out)
                have f0 : w5.cell? ⟨gb + 1, 0, none⟩ = some (.int .i64 0) ∧ w5.frozen? ⟨gb + 1, 0, none⟩ = false := ⟨by rw [bF.cell]; rfl, bF.frozen _⟩
                have f1 : w5.cell? ⟨gb + 1, 1, none⟩ = some (.int .i64 0) ∧ w5.frozen? ⟨gb + 1, 1, none⟩ = false := ⟨by rw [bF.cell]; rfl, bF.frozen _⟩
                have hgl3 := bF.lt
                clear bF
                clear bS q0 P hb
                go_wp2
                exact bodyPost_ret (results_blk (flt_put (BF.out.ext (XE.out.trans X2.out))) rfl _ rfl Try.underlying38 rfl infoFault) rfl ⟨(4, j), rfl, flt_ext (X.out.trans (XE.out.trans X2.out)) (by have := Hgb.out; omega), fun _ => ⟨T, HL.out, HE.out⟩, fun h => (by rw [Hmay.out] at h; cases h)⟩
              · have Hb := Lib.hid hb
                clear hb
                go_wp2_with (first | ((with_reducible refine load_all bS ?_ Try.underlying117 ?_ ?_ ?_); rfl; rfl; (rw [stV_size hl8]; exact infoState')) | fail)
                have C := quiet_c p j s Hso.out Hr.out Hcl.out hlt (Hins.out _ (getD_mem hlt)) w5 (HP.out.ext (X.out.trans (XE.out.trans X2.out))) P
                (with_reducible refine C.mono ?_)
                clear C
                rintro e w6 ⟨rfl, hx⟩
                have X2 := Lib.hid (X2.out.trans hx)
                clear hx P bS q0
                cases hq : quietK p s (insAt p j)
                · have HE := Lib.hid (show ((5 : Int), j) = faultOf p T by rw [← HF2.out, Hf.out, Hb.out, hq]; rfl)
                  have bF := BF.out.ext (XE.out.trans X2.out)
                  have f0 : w6.cell? ⟨gb + 1, 0, none⟩ = some (.int .i64 0) ∧ w6.frozen? ⟨gb + 1, 0, none⟩ = false := ⟨by rw [bF.cell]; rfl, bF.frozen _⟩
                  have f1 : w6.cell? ⟨gb + 1, 1, none⟩ = some (.int .i64 0) ∧ w6.frozen? ⟨gb + 1, 1, none⟩ = false := ⟨by rw [bF.cell]; rfl, bF.frozen _⟩
                  have hgl3 := bF.lt
                  clear bF
                  clear hq
                  go_wp2
                  exact bodyPost_ret (results_blk (flt_put (BF.out.ext (XE.out.trans X2.out))) rfl _ rfl Try.underlying38 rfl infoFault) rfl ⟨(5, j), rfl, flt_ext (X.out.trans (XE.out.trans X2.out)) (by have := Hgb.out; omega), fun _ => ⟨T, HL.out, HE.out⟩, fun h => (by rw [Hmay.out] at h; cases h)⟩
                · have Hn := Lib.hid (show faultFrom p T (p.code.length - (j + 1)) (j + 1) = faultOf p T by rw [← HF2.out, Hf.out, Hb.out, hq]; rfl)
                  clear hq
                  go_wp2
                  go_roundw
                  case rel => exact ⟨j + 1, by omega, by go_num, X2.out, Hn.out⟩
                  case measure => first | (simp [intOf]; done) | (simp [intOf]; omega)
          · have hje : j = p.code.length := by omega
            subst hje
            have hlt2 : decide ((p.code.length : Int) < (p.code.length : Int)) = false := by simp
            have HE := Lib.hid (show ((0 : Int), 0) = faultOf p T by rw [← HF.out, Nat.sub_self]; rfl)
            have bF := BF.out.ext (XE.out.trans X2.out)
            have f0 : wr.cell? ⟨gb + 1, 0, none⟩ = some (.int .i64 0) ∧ wr.frozen? ⟨gb + 1, 0, none⟩ = false := ⟨by rw [bF.cell]; rfl, bF.frozen _⟩
            have f1 : wr.cell? ⟨gb + 1, 1, none⟩ = some (.int .i64 0) ∧ wr.frozen? ⟨gb + 1, 1, none⟩ = false := ⟨by rw [bF.cell]; rfl, bF.frozen _⟩
            have hgl3 := bF.lt
            clear bF
            clear P
            go_wp2
            exact bodyPost_ret (results_blk (flt_put (BF.out.ext (XE.out.trans X2.out))) rfl _ rfl Try.underlying38 rfl infoFault) rfl ⟨(0, 0), rfl, flt_ext (X.out.trans (XE.out.trans X2.out)) (by have := Hgb.out; omega), fun _ => ⟨T, HL.out, HE.out⟩, fun h => (by rw [Hmay.out] at h; cases h)⟩
theorem make_put {w : World} {g : Nat} {T U : TypeId} {a b c d x y z u : Value} (hA : Blk w g T #[a, b]) (hB : Blk w (g + 1) U #[c, d]) :
    Blk ((((w.setCell ⟨g, 0, none⟩ x).setCell ⟨g, 1, none⟩ y).setCell ⟨g + 1, 0, none⟩ z).setCell ⟨g + 1, 1, none⟩ u) g T #[x, y] ∧ Blk ((((w.setCell ⟨g, 0, none⟩ x).setCell ⟨g, 1, none⟩ y).setCell ⟨g + 1, 0, none⟩ z).setCell ⟨g + 1, 1, none⟩ u) (g + 1) U #[z, u] :=
  ⟨(((hA.set_ 0 x).set_ 1 y).far (p := ⟨g + 1, 0, none⟩) (by simp) z).far (p := ⟨g + 1, 1, none⟩) (by simp) u, (((hB.far (p := ⟨g, 0, none⟩) (by simp) x).far (p := ⟨g, 1, none⟩) (by simp) y).set_ 0 z).set_ 1 u⟩
theorem make_ext {w w1 : World} {g : Nat} {x y z u : Value} (h : Ext w w1) (hg : w.heap.size ≤ g) : Ext w ((((w1.setCell ⟨g, 0, none⟩ x).setCell ⟨g, 1, none⟩ y).setCell ⟨g + 1, 0, none⟩ z).setCell ⟨g + 1, 1, none⟩ u) :=
  (((h.setCell (p := ⟨g, 0, none⟩) hg _).setCell (p := ⟨g, 1, none⟩) hg _).setCell (p := ⟨g + 1, 0, none⟩) (Nat.le_succ_of_le hg) _).setCell (p := ⟨g + 1, 1, none⟩) (Nat.le_succ_of_le hg) _
theorem own_put4 {w : World} {g base : Nat} {T U e : TypeId} {size n : Nat} {v : Value} {xs : List Value} {A B : Array Value} {x y z u : Value} (h : w.ownsRow base e size v n xs) (hA : Blk w g T A) (hB : Blk w (g + 1) U B) (h1 : e ≠ T) (h2 : e ≠ U) :
    ((((w.setCell ⟨g, 0, none⟩ x).setCell ⟨g, 1, none⟩ y).setCell ⟨g + 1, 0, none⟩ z).setCell ⟨g + 1, 1, none⟩ u).ownsRow base e size v n xs := by
  have n1 := own_ne h hA h1
  have n2 := own_ne h hB h2
  exact own_far (own_far (own_far (own_far h n1 _) n1 _) n2 _) n2 _
theorem fault_zero (p : LProg) (T : Tab) : (faultOf p T).1 = 0 → faultOf p T = (0, 0) := by
  have key : ∀ (n k : Nat), (faultFrom p T n k).1 = 0 → faultFrom p T n k = (0, 0) := by
    intro n
    induction n with
    | zero => intro k _; rfl
    | succ n ih =>
      intro k h
      rw [faultFrom] at h ⊢
      split
      · rename_i h1; rw [h1] at h; exact ih _ h
      · rename_i s h1
        rw [h1] at h
        simp only at h
        split
        · rename_i h2; rw [if_pos h2] at h; simp at h
        · rename_i h2
          rw [if_neg h2] at h
          split
          · rename_i h3; rw [if_pos h3] at h; simp at h
          · rename_i h3; rw [if_neg h3] at h; exact ih _ h
  exact key _ _
def MakePost (q : LProg → LProg) (p : LProg) (w : World) (e : Ending) (w' : World) : Prop :=
  ∃ (u : Value) (F : Int × Nat), e = .returned (.tuple #[u, .agg #[.int .i64 F.1, .int .i64 (F.2 : Int)]]) ∧ Ext w w' ∧ (mayOk p = true → ∃ T, Least p T ∧ F = faultOf p T) ∧ (mayOk p = false → F = (2, 0)) ∧ (F.1 = 0 → mayOk p = true ∧ ProgAt w' u (q p)) ∧ (F.1 ≠ 0 → u = .agg #[.slice none 0 0, .slice none 0 0])
end Go.Proofs.Ytmfgckfflkddcaa
