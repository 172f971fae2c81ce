/- Laid together from: CkE, Ck3, Ref6b. -/
import Derived.Test.YteiknefajlocoaaCheckTellsB16
import Derived.Test.YteiknefajlocoaaProg
import Derived.DeepKeys
import Derived.Laws.StructEq
import Derived.Test.YteiknefajlocoaaCheckTellsB17
import Derived.Test.YteiknefajlocoaaCheckTellsB10
import Derived.Test.YteiknefajlocoaaCheckTellsB11

/- Are two states the same? The program asks so of whole arrays. -/
namespace Go.Proofs.Yteiknefajlocoaa
open Go.ChangeShapes Go.WideShapes Go.ChangeAt Go.RowKit
theorem eq_kn (a b : LKn) (w : World) : (Op.equalIn 9999 78 (knV a) (knV b)).run Try.prog w = .ok (decide (a = b)) w := by
  obtain ⟨x, y⟩ := a
  obtain ⟨u, v⟩ := b
  unfold knV
  go_simp
  by_cases h1 : x = u <;> by_cases h2 : y = v <;> simp [h1, h2]
set_option maxRecDepth 100000 in
theorem part_kn (u : KSt) (hu : u.length = 8) (i : Nat) (hi : i < 8) (w : World) : (part 78 (stV u) (i * 2)).run Try.prog w = .ok (knV (u.getD i default)) w := by
  match u, hu with
  | [s0, s1, s2, s3, s4, s5, s6, s7], _ =>
    rcases (show i = 0 ∨ i = 1 ∨ i = 2 ∨ i = 3 ∨ i = 4 ∨ i = 5 ∨ i = 6 ∨ i = 7 by omega) with rfl | rfl | rfl | rfl | rfl | rfl | rfl | rfl <;> (first | rfl | (go_simp; done))
theorem items_kn {s t : KSt} (hs : s.length = 8) (ht : t.length = 8) (w : World) : ∀ is : List Nat, (∀ i ∈ is, i < 8) → (Op.eqItems 9999 78 2 (stV s) (stV t) is).run Try.prog w = .ok (is.all fun i => decide (s.getD i default = t.getD i default)) w
  | [], _ => by simp [Op.eqItems]
  | i :: is, h => by
    have hi := h i (by simp)
    have ih := items_kn hs ht w is (fun j hj => h j (by simp [hj]))
    rw [Op.eqItems]
    simp only [Sem.run_bind, part_kn s hs i hi, part_kn t ht i hi, eq_kn, Result.andThen_ok, List.all_cons]
    by_cases e : s.getD i default = t.getD i default
    · simp only [e, decide_true, Bool.not_true, Bool.false_eq_true, if_false, Bool.true_and]
      exact ih
    · simp only [e, decide_false, Bool.not_false, if_true, Bool.false_and]
      rfl
theorem eql_st (s t : KSt) (hs : s.length = 8) (ht : t.length = 8) (w : World) : (binOp .eql 80 (.agg (stV s)) (.agg (stV t))).run Try.prog w = .ok (.bool (decide (s = t))) w := by
  obtain ⟨i, hi⟩ := Option.isSome_iff_exists.1 (show (Try.prog.info? 78).isSome = true by kernel_rfl)
  have h2 : Try.prog.cellsOf 78 = 2 := by kernel_rfl
  have h : (Op.equalIn 10000 80 (.agg (stV s)) (.agg (stV t))).run Try.prog w = (Op.eqItems 9999 78 (Try.prog.cellsOf 78) (stV s) (stV t) (List.range 8)).run Try.prog w := run_equalIn_array (P := Try.prog) w 9999 (stV s) (stV t) Try.underlying80 hi
  rw [h2, items_kn hs ht w _ (fun i hi => by simpa using hi)] at h
  rw [run_eql_struct, h]
  rw [Result.andThen_ok]
  refine congrArg (fun b => Result.ok (Value.bool b) w) ?_
  rw [Bool.eq_iff_iff, decide_eq_true_iff, List.all_eq_true]
  constructor
  · intro hh
    apply List.ext_getElem (by rw [hs, ht])
    intro j h1 h2
    have := hh j (by simp; omega)
    simpa [h1, h2] using this
  · intro hh
    subst hh
    simp
end Go.Proofs.Yteiknefajlocoaa
/- Walk of the checker's lead. -/
namespace Go.Proofs.Yteiknefajlocoaa
open Go.ChangeShapes Go.WideShapes Go.ChangeAt Go.RowKit
set_option linter.unusedVariables false
set_option linter.unusedSimpArgs false

theorem infoInt2 : (Try.prog.info? 3).map (fun i => (i.zero, i.size, i.bytes)) = some (some (.int .i64 0), 1, 8) := by kernel_rfl
/-- the first j registers joined -/
def mixJ (s t : KSt) (j : Nat) : KSt := (List.range 8).map fun r => if r < j then kjoin (s.getD r default) (t.getD r default) else s.getD r default
theorem mix_len (s t : KSt) (j : Nat) : (mixJ s t j).length = 8 := by simp [mixJ]
theorem mix_zero {s : KSt} (hs : s.length = 8) (t : KSt) : mixJ s t 0 = s := by
  apply List.ext_getElem (by rw [mix_len, hs])
  intro j h1 h2
  simp [mixJ, h2]
theorem mix_all (s t : KSt) : mixJ s t 8 = sjoin s t := by
  unfold mixJ sjoin
  apply List.map_congr_left
  intro r hr
  rw [if_pos (by simpa using hr)]
theorem mix_get (s t : KSt) {j r : Nat} (hr : r < 8) : (mixJ s t j).getD r default = if r < j then kjoin (s.getD r default) (t.getD r default) else s.getD r default := by simp [mixJ, hr]
theorem mix_succ (s t : KSt) {j : Nat} (hj : j < 8) : kset (mixJ s t j) (j : Int) (kjoin (s.getD j default) (t.getD j default)) = mixJ s t (j + 1) := by
  have hl : (kset (mixJ s t j) (j : Int) (kjoin (s.getD j default) (t.getD j default))).length = 8 := by simp [kset, mix_len]
  have key : ∀ r, r < 8 → (kset (mixJ s t j) (j : Int) (kjoin (s.getD j default) (t.getD j default))).getD r default = (mixJ s t (j + 1)).getD r default := by
    intro r hr
    rw [kset_get, mix_get s t hr, mix_get s t hr, mix_len]
    by_cases hrj : r = j
    · subst hrj; simp [hr]
    · rw [if_neg (by simp; omega)]
      by_cases h3 : r < j
      · rw [if_pos h3, if_pos (by omega)]
      · rw [if_neg h3, if_neg (by omega)]
  generalize kset (mixJ s t j) (j : Int) (kjoin (s.getD j default) (t.getD j default)) = a at *
  have hm := mix_len s t (j + 1)
  generalize mixJ s t (j + 1) = b at *
  apply List.ext_getElem (by omega)
  intro r h1 h2
  have := key r (by omega)
  simpa [h1, h2] using this
def LeadPost (p : LProg) (w : World) (B g ks : Nat) (vR vC vK : Value) (T : Tab) (wk : List Int) (at_ : Nat) (s : KSt) (e : Ending) (w' : World) : Prop :=
  e = .returned (.tuple #[]) ∧ ∃ vK', CSt w' B g ks vR vC vK' p (leadT p T at_ s) (leadW p T wk at_ s) ∧ Turn (fun j => j = g ∨ j = ks ∨ vK.ownBlock = some j) w w'
set_option maxRecDepth 100000 in
set_option maxHeartbeats 4000000 in
theorem lead_c (p : LProg) {B g ks : Nat} {vR vK : Value} {oc : Option Addr} {capc : Nat} {T : Tab} {wk : List Int} (at_ : Nat) (s : KSt) (hs : Sok s) (hcl : p.code.length ≤ 200) (hwl : wk.length ≤ 1000000) (w : World) (h : CSt w B g ks vR (.slice oc p.code.length capc) vK p T wk) :
    Calls Try.prog 51 #[.pointer (some ⟨g, 0, none⟩), .int .i64 (at_ : Int), .agg (stV s)] w (LeadPost p w B g ks vR (.slice oc p.code.length capc) vK T wk at_ s) := by
  have H := Lib.hid h
  have Hs := Lib.hid hs
  have hBs := h.size
  obtain ⟨i0, hi0, hz0, hz1, hz2⟩ := info_parts infoInt2
  go_enter Try.func51, Try.ntmps51
  go_upto_region 1 with fail
  obtain ⟨W, e, he, hW, hx, bE⟩ := block1 w (stV s) 80
  rw [hW, he]
  have X := Lib.hid hx
  have P := h.ext hx
  obtain ⟨-, c1, c2, c3⟩ := P.cells
  have hgl := P.box.lt
  have hel := bE.lt
  have hge : e ≠ g := by have := h.box.lt; omega
  have hBe : B ≤ e := by omega
  have hkl : ks < w.heap.size := by
    obtain ⟨R, r1, -⟩ := h.row
    exact r1.lt
  have hke : ks ≠ e := by omega
  have hgw := h.box.lt
  have Hhe := Lib.hid he
  clear hW hx
  by_cases hbe : p.code.length ≤ at_
  · have Hp : Hid (∀ w', Ext w w' → LeadPost p w B g ks vR (.slice oc p.code.length capc) vK T wk at_ s (.returned (.tuple #[])) w') := Lib.hid fun w' hx => ⟨rfl, vK, by
      unfold leadT leadW
      rw [if_pos hbe, if_pos hbe]
      exact H.out.ext hx, Turn.ofExt hx⟩
    clear P h hs c2 c3 he
    go_wp2
    try refine bodyPost_end (results_none rfl _ _ _) rfl ?_
    exact Hp.out _ X.out
  have hat : at_ < p.code.length := by omega
  have Hat := Lib.hid hat
  obtain ⟨hrow0, hrow1⟩ := P.row_at hat
  have PP := Lib.hid P
  have hixs := index_sts
  have hatd : decide ((p.code.length : Int) ≤ (at_ : Int)) = false := decide_eq_false (by omega)
  have hatd2 : decide (p.code.length ≤ at_) = false := decide_eq_false (by omega)
  have hatd3 : ¬ p.code.length ≤ at_ := by omega
  clear hbe h hs P he
  cases ht : tg T at_ with
  | none =>
    obtain ⟨r0, rf⟩ := hrow0 ht
    have HT : Hid (leadT p T at_ s = T.set at_ (some s)) := Lib.hid (by
      unfold leadT joinT
      rw [if_neg (by omega)]
      simp [ht])
    have HW : Hid (leadW p T wk at_ s = wk ++ [(at_ : Int)]) := Lib.hid (by
      unfold leadW
      rw [if_neg (by omega), ht])
    have rr : W.cell? ⟨ks, at_, none⟩ = some (.pointer none) ∧ W.frozen? ⟨ks, at_, none⟩ = false := ⟨r0, rf⟩
    have Hs2 := Hs
    have HWB : Hid (Turn (fun j => j = g ∨ j = ks ∨ vK.ownBlock = some j) w W) := Lib.hid (Turn.ofExt X.out)
    clear hrow0 hrow1 ht r0 rf
    go_upto_region 11 with fail
    have P2 := PP.out.put Hat.out hBe bE Hs2.out
    have hgl2 : g < (W.setCell ⟨ks, at_, none⟩ (.pointer (some ⟨e, 0, none⟩))).heap.size := by rw [setCell_size]; exact hgl
    have HWB2 : Hid (Turn (fun j => j = g ∨ j = ks ∨ vK.ownBlock = some j) w (W.setCell ⟨ks, at_, none⟩ (.pointer (some ⟨e, 0, none⟩)))) := Lib.hid (HWB.out.trans (Turn.set _ _ _) (fun j _ e => .inr (.inl e)))
    generalize W.setCell ⟨ks, at_, none⟩ (.pointer (some ⟨e, 0, none⟩)) = W2 at *
    obtain ⟨-, -, -, d3⟩ := P2.cells
    have P2 := Lib.hid P2
    obtain ⟨ok, okc, rfl⟩ := own_slice P2.out.wk
    have hBs2 := P2.out.size
    go_wp2_with (at_builtin; refine wpList_append_src _ rfl _ _ 51 rfl B 3 i0 _ 1 8 Try.underlying51 hi0 hz0 hz1 hz2 rfl (by decide) _ _ _ rfl (own_alloc P2.out.wk) (some ⟨W2.heap.size, 0, none⟩) 1 1 [.int .i64 (at_ : Int)] rfl ?c1 ?c3 ?c4 ?c5 ?_)
    case c1 => exact src_new (size := 1) (Blk.new W2 3 #[.int .i64 (at_ : Int)]) rfl (by simp [Value.oneCell'])
    case c3 => unfold maxLen; omega
    case c4 => omega
    case c5 => simp; omega
    intro v1 w3 hown hgrow hat2
    clear hat2
    obtain ⟨o3, c3', rfl⟩ := own_slice hown
    have hxa := (Ext.refl W2).alloc (.cells #[.int .i64 (at_ : Int)] 3)
    have PB := P2.out.ext hxa
    have hgrow : (W2.alloc (.cells #[.int .i64 (at_ : Int)] 3)).grownBy w3 (Value.slice ok wk.length okc).ownBlock := hgrow
    have hb3 := PB.box.grown hgrow (own_ne PB.wk PB.box (by decide))
    have p3 : w3.cell? ⟨g, 3, none⟩ = some (.slice ok wk.length okc) ∧ w3.frozen? ⟨g, 3, none⟩ = false := ⟨by rw [hb3.cell]; rfl, hb3.frozen 3⟩
    have P3 := Lib.hid (PB.work (vK' := .slice o3 (wk.length + 1) c3') (wk' := wk ++ [(at_ : Int)]) hgrow (by simpa using hown))
    have HB3 : Hid (Turn (fun j => j = g ∨ j = ks ∨ (Value.slice ok wk.length okc).ownBlock = some j) w (w3.setCell ⟨g, 3, none⟩ (.slice o3 (wk.length + 1) c3'))) := Lib.hid (((HWB2.out.ext hxa).trans (Turn.grown hgrow) (fun j _ e => .inr (.inr e))).trans (Turn.set _ _ _) (fun j _ e => .inl e))
    have hg3 := hb3.lt
    clear hown hgrow hb3 hxa PB d3
    go_wp2
    try refine bodyPost_end (results_none rfl _ _ _) rfl ?_
    refine ⟨rfl, .slice o3 (wk.length + 1) c3', ?_, HB3.out⟩
    rw [HT.out, HW.out]
    exact P3.out
  | some t =>
    obtain ⟨k, r0, hBk, bK⟩ := hrow1 t ht
    have Ht := Lib.hid (PP.out.tok.ok at_ t ht)
    have hkel : k < w.heap.size := by
      obtain ⟨R, r1, r2, r3⟩ := H.out.row
      have := r3 at_ hat
      rw [ht] at this
      obtain ⟨k2, e1, -, e3⟩ := this
      have e4 := (r1.ext X.out).cell at_
      rw [e1, r0.1] at e4
      simp only [Option.some.injEq, Value.pointer.injEq, Addr.mk.injEq, and_true] at e4
      rw [e4]; exact e3.lt
    have hke2 : k ≠ e := by have := Hhe.out; omega
    have HTW : Hid (leadT p T at_ s = T.set at_ (some (sjoin s t)) ∧ leadW p T wk at_ s = if sjoin s t = t then wk else wk ++ [(at_ : Int)]) := Lib.hid (by
      unfold leadT joinT leadW
      rw [if_neg (by omega), if_neg (by omega)]
      simp [ht])
    have HTt : Hid (tg T at_ = some t) := Lib.hid ht
    have hst := index_st
    clear hrow0 hrow1 ht
    have XW := X
    go_wp2_with fail
    go_loopw [25] (fun i wr => ∃ j : Nat, j ≤ 8 ∧ i = .int .i64 j ∧ Blk wr e 80 (stV (mixJ s t j)) ∧ Ext w wr) (fun i _ => 8 - (intOf i).toNat)
    case atStart => exact ⟨0, by omega, rfl, by rw [mix_zero Hs.out.len]; exact bE, X.out⟩
    case round =>
      obtain ⟨j, hj, rfl, bR, hE⟩ := hrel
      have X := Lib.hid hE
      have bR' := Lib.hid bR
      have bKr := (H.out.ext hE).row_at Hat.out
      obtain ⟨-, hk1⟩ := bKr
      obtain ⟨k2, kc, -, kb⟩ := hk1 t HTt.out
      have hkk : k2 = k := by
        have e1 := hE.cell (p := ⟨ks, at_, none⟩) hkl
        have e2 := X.out.cell (p := ⟨ks, at_, none⟩) hkl
        have e3 := X
        have e4 : w.cell? ⟨ks, at_, none⟩ = some (.pointer (some ⟨k, 0, none⟩)) := by
          obtain ⟨-, hw1⟩ := H.out.row_at Hat.out
          obtain ⟨k3, c3', -, -⟩ := hw1 t HTt.out
          have := XW.out.kept c3'.1
          rw [r0.1] at this
          rw [c3'.1, this]
        rw [kc.1, e4] at e1
        simpa using e1
      rw [hkk] at kb
      clear kc
      have hel := bR.lt
      have hkel2 := kb.lt
      clear hE hk1
      by_cases hlt : j < 8
      · obtain ⟨⟨a0, f0⟩, ⟨a1, f1⟩⟩ := st_cell bR (mix_len s t j) (a := (j : Int)) (okIn_iff.2 ⟨by omega, by omega⟩)
        obtain ⟨⟨b0, -⟩, ⟨b1, -⟩⟩ := st_cell kb Ht.out.len (a := (j : Int)) (okIn_iff.2 ⟨by omega, by omega⟩)
        have Hnext := Lib.hid (mix_succ s t hlt)
        have hkg : kg (mixJ s t j) (j : Int) = s.getD j default := by
          unfold kg
          rw [Int.toNat_natCast, mix_get s t hlt, if_neg (by omega)]
        have hkg2 : kg t (j : Int) = t.getD j default := by unfold kg; rw [Int.toNat_natCast]
        rw [hkg] at a0 a1
        rw [hkg2] at b0 b1
        simp only [Int.toNat_natCast] at a0 a1 b0 b1 f0 f1
        have Hput : Hid (∀ w', Ext wr w' → Blk ((w'.setCell ⟨e, j * 2, none⟩ (.int .i64 (kjoin (s.getD j default) (t.getD j default)).bits)).setCell ⟨e, j * 2 + 1, none⟩ (.bool (kjoin (s.getD j default) (t.getD j default)).sec)) e 80 (stV (mixJ s t (j + 1)))) := Lib.hid fun w' hx => by
          have := st_put (bR'.out.ext hx) (mix_len s t j) (a := (j : Int)) (okIn_iff.2 ⟨by omega, by omega⟩) (kjoin (s.getD j default) (t.getD j default))
          rw [Hnext.out] at this
          simpa using this
        unfold kjoin at Hput
        generalize s.getD j default = x at *
        generalize t.getD j default = y at *
        simp only at Hput
        have rr0 : wr.cell? ⟨e, j * 2, none⟩ = some (.int .i64 x.bits) ∧ wr.frozen? ⟨e, j * 2, none⟩ = false := ⟨a0, f0⟩
        have rr1 : wr.cell? ⟨e, j * 2 + 1, none⟩ = some (.bool x.sec) ∧ wr.frozen? ⟨e, j * 2 + 1, none⟩ = false := ⟨a1, f1⟩
        go_upto_region 7 with fail
        have k0 : ∀ Wx, Ext wr Wx → Wx.cell? ⟨e, j * 2, none⟩ = some (.int .i64 x.bits) := fun _ h => h.kept a0
        have k1 : ∀ Wx, Ext wr Wx → Wx.cell? ⟨e, j * 2 + 1, none⟩ = some (.bool x.sec) := fun _ h => h.kept a1
        have l0 : ∀ Wx, Ext wr Wx → Wx.cell? ⟨k, j * 2, none⟩ = some (.int .i64 y.bits) := fun _ h => h.kept b0
        have l1 : ∀ Wx, Ext wr Wx → Wx.cell? ⟨k, j * 2 + 1, none⟩ = some (.bool y.sec) := fun _ h => h.kept b1
        refine region_float [9, 10, 11] 1 (by kernel_rfl) (by kernel_rfl) ?_
        repeat (first | (refine cw_heavy ?_ ?_; (decide)) | (refine cw_value ?_ ?_ ?_; (decide); (first | rfl | (focus (go_simp; done))); apply Exists.intro; refine ⟨fun wc hE => ?_, ?_⟩; (go_simp; exact rfl); go_simp) | (refine cw_skip ?_ ?_ ?_; (decide); (focus (go_simp; done)); go_simp))
        refine cw_nil ?_
        intro w2 hx
        have X2 := Lib.hid hx
        clear k0 k1 l0 l1 a0 a1 b0 b1 f0 f1
        refine wpF_soft rfl ?_
        go_wp2_with fail
        (with_reducible refine (join_c x.bits y.bits x.sec y.sec w2).mono ?_)
        rintro er w3 ⟨rfl, hx3⟩
        have hx13 := hx.trans hx3
        have rr0 := kept2 hx13 rr0
        have rr1 := kept2 hx13 rr1
        have hel3 := (bR'.out.ext hx13).lt
        have HX13 := Lib.hid hx13
        go_wp2
        try refine ⟨hx13, ?_⟩
        refine wpF_hard (heavies_cons rfl (heavies_cons rfl (heavies_nil))) ?_
        clear hx hx3 hx13
        go_wp2
        go_roundw
        case rel =>
          refine ⟨j + 1, by omega, by go_num, Hput.out _ HX13.out, ?_⟩
          have hwe : w.heap.size ≤ e := by have := Hhe.out; omega
          exact ((X.out.trans HX13.out).setCell (p := ⟨e, j * 2, none⟩) hwe _).setCell (p := ⟨e, j * 2 + 1, none⟩) hwe _
        case measure => first | (simp [intOf]; done) | (simp [intOf]; omega)
      · have hje : j = 8 := by omega
        subst hje
        have bU := bR'.out
        rw [mix_all] at bU
        have hu := sjoin_ok s t
        have bU := Lib.hid bU
        have bK2 := Lib.hid kb
        have Hu := Lib.hid hu
        have heq := eql_st (sjoin s t) t hu.len Ht.out.len
        have hu8 := hu.len
        have ht8 := Ht.out.len
        have hPr := Lib.hid (H.out.ext X.out)
        generalize hsj : sjoin s t = u at *
        clear hlt bR bR'
        have bU0 := bU.out
        go_upto_region 9 with fail
        refine region_calm 5 (by kernel_rfl) (by kernel_rfl) ?_
        simp only [List.take_succ_cons, List.take_zero, List.drop_succ_cons, List.drop_zero]
        repeat (first | (refine calm_load_st ?_ ?_ ?_ bU0 hu8 ?_; (decide); (first | rfl | (focus (go_simp; done))); exact ⟨_, rfl, rfl⟩; go_simp) | (refine calm_load_st ?_ ?_ ?_ kb ht8 ?_; (decide); (first | rfl | (focus (go_simp; done))); exact ⟨_, rfl, rfl⟩; go_simp) | (refine calm_fresh ?_ ?_ (fun wc hE => ?_) ?_; (decide); rfl; (focus (go_simp; done)); go_simp) | (refine calm_value ?_ ?_ ?_; (decide); (first | rfl | (focus (go_simp; done))); apply Exists.intro; refine ⟨fun wc hE => ?_, ?_⟩; (go_simp; exact rfl); go_simp) | (refine calm_call ?_ ?_ ?_; (decide); (first | rfl | (focus (go_simp; done))); apply Exists.intro; refine ⟨fun wc hE => ?_, ?_⟩; (go_simp; (first | fail)); go_simp) | (refine calm_skip ?_ ?_ ?_; (decide); (focus (go_simp; done)); go_simp))
        refine calm_nil ?_
        intro wx hx
        have X := Lib.hid (X.out.trans hx)
        have PP := Lib.hid (hPr.out.ext hx)
        have bU := Lib.hid (bU.out.ext hx)
        clear heq hx bU0 kb hu8 ht8
        have HTW := HTW
        by_cases hut : u = t
        · have hd : decide (u = t) = true := by simpa using hut
          have hp : LeadPost p w B g ks vR (.slice oc p.code.length capc) vK T wk at_ s (.returned (.tuple #[])) wx := by
            refine ⟨rfl, vK, ?_, Turn.ofExt X.out⟩
            rw [HTW.out.1, HTW.out.2, if_pos hut, hut]
            have : T.set at_ (some t) = T := by
              apply List.ext_getElem (by simp)
              intro j h1 h2
              have := HTt.out
              unfold tg at this
              rw [List.getElem_set]
              by_cases e : at_ = j
              · subst e
                rw [if_pos rfl]
                simpa [h2] using this.symm
              · rw [if_neg e]
            rw [this]
            exact PP.out
          have hp := Lib.hid hp
          rw [hd]
          clear hut
          go_wp2
          try refine bodyPost_end (results_none rfl _ _ _) rfl ?_
          exact hp.out
        · have hd : decide (u = t) = false := by simpa using hut
          have HT : Hid (leadT p T at_ s = T.set at_ (some u)) := Lib.hid (by rw [HTW.out.1])
          have HW : Hid (leadW p T wk at_ s = wk ++ [(at_ : Int)]) := Lib.hid (by rw [HTW.out.2, if_neg hut])
          have Hs2 := Hu
          obtain ⟨-, hrow1⟩ := PP.out.row_at Hat.out
          obtain ⟨k5, rr, -, -⟩ := hrow1 t HTt.out
          obtain ⟨-, c1, c2, c3⟩ := PP.out.cells
          have hgl := PP.out.box.lt
          have bE := bU.out
          have HWB : Hid (Turn (fun j => j = g ∨ j = ks ∨ vK.ownBlock = some j) w wx) := Lib.hid (Turn.ofExt X.out)
          have hel := bE.lt
          have hkl2 : ks < wx.heap.size := by have := X.out.size; omega
          rw [hd]
          clear hut hrow1
          go_upto_region 11 with fail
          have P2 := PP.out.put Hat.out hBe bE Hs2.out
          have hgl2 : g < (wx.setCell ⟨ks, at_, none⟩ (.pointer (some ⟨e, 0, none⟩))).heap.size := by rw [setCell_size]; exact hgl
          have HWB2 : Hid (Turn (fun j => j = g ∨ j = ks ∨ vK.ownBlock = some j) w (wx.setCell ⟨ks, at_, none⟩ (.pointer (some ⟨e, 0, none⟩)))) := Lib.hid (HWB.out.trans (Turn.set _ _ _) (fun j _ e => .inr (.inl e)))
          generalize wx.setCell ⟨ks, at_, none⟩ (.pointer (some ⟨e, 0, none⟩)) = W2 at *
          obtain ⟨-, -, -, d3⟩ := P2.cells
          have P2 := Lib.hid P2
          obtain ⟨ok, okc, rfl⟩ := own_slice P2.out.wk
          have hBs2 := P2.out.size
          go_wp2_with (at_builtin; refine wpList_append_src _ rfl _ _ 51 rfl B 3 i0 _ 1 8 Try.underlying51 hi0 hz0 hz1 hz2 rfl (by decide) _ _ _ rfl (own_alloc P2.out.wk) (some ⟨W2.heap.size, 0, none⟩) 1 1 [.int .i64 (at_ : Int)] rfl ?c1 ?c3 ?c4 ?c5 ?_)
          case c1 => exact src_new (size := 1) (Blk.new W2 3 #[.int .i64 (at_ : Int)]) rfl (by simp [Value.oneCell'])
          case c3 => unfold maxLen; omega
          case c4 => omega
          case c5 => simp; omega
          intro v1 w3 hown hgrow hat2
          clear hat2
          obtain ⟨o3, c3', rfl⟩ := own_slice hown
          have hxa := (Ext.refl W2).alloc (.cells #[.int .i64 (at_ : Int)] 3)
          have PB := P2.out.ext hxa
          have hgrow : (W2.alloc (.cells #[.int .i64 (at_ : Int)] 3)).grownBy w3 (Value.slice ok wk.length okc).ownBlock := hgrow
          have hb3 := PB.box.grown hgrow (own_ne PB.wk PB.box (by decide))
          have p3 : w3.cell? ⟨g, 3, none⟩ = some (.slice ok wk.length okc) ∧ w3.frozen? ⟨g, 3, none⟩ = false := ⟨by rw [hb3.cell]; rfl, hb3.frozen 3⟩
          have P3 := Lib.hid (PB.work (vK' := .slice o3 (wk.length + 1) c3') (wk' := wk ++ [(at_ : Int)]) hgrow (by simpa using hown))
          have HB3 : Hid (Turn (fun j => j = g ∨ j = ks ∨ (Value.slice ok wk.length okc).ownBlock = some j) w (w3.setCell ⟨g, 3, none⟩ (.slice o3 (wk.length + 1) c3'))) := Lib.hid (((HWB2.out.ext hxa).trans (Turn.grown hgrow) (fun j _ e => .inr (.inr e))).trans (Turn.set _ _ _) (fun j _ e => .inl e))
          have hg3 := hb3.lt
          clear hown hgrow hb3 hxa PB d3
          go_wp2
          try refine bodyPost_end (results_none rfl _ _ _) rfl ?_
          refine ⟨rfl, .slice o3 (wk.length + 1) c3', ?_, HB3.out⟩
          rw [HT.out, HW.out]
          exact P3.out
end Go.Proofs.Yteiknefajlocoaa
/- Walks of the reference (chapter 6): copied, index, less, join, same. -/
namespace Go.Proofs.Yteiknefajlocoaa
open Go.ChangeShapes Go.WideShapes Go.ChangeAt Go.RowKit
set_option linter.unusedVariables false
set_option linter.unusedSimpArgs false

theorem blocks4 (w : World) (A B C D : Array Value) (S T U V : TypeId) : ∃ W g, w.heap.size = g ∧ (((w.alloc (.cells A S)).alloc (.cells B T)).alloc (.cells C U)).alloc (.cells D V) = W ∧ Ext w W ∧ Blk W g S A ∧ Blk W (g + 1) T B ∧ Blk W (g + 1 + 1) U C ∧ Blk W (g + 1 + 1 + 1) V D := by
  have h0 := (((Blk.new w S A).alloc (.cells B T)).alloc (.cells C U)).alloc (.cells D V)
  have h1 := ((Blk.new (w.alloc (.cells A S)) T B).alloc (.cells C U)).alloc (.cells D V)
  have h2 := (Blk.new ((w.alloc (.cells A S)).alloc (.cells B T)) U C).alloc (.cells D V)
  have h3 := Blk.new (((w.alloc (.cells A S)).alloc (.cells B T)).alloc (.cells C U)) V D
  simp only [World.size_alloc] at h1 h2 h3
  exact ⟨_, _, rfl, rfl, ((((Ext.refl w).alloc _).alloc _).alloc _).alloc _, h0, h1, h2, h3⟩
theorem infoKn3 : (Try.prog.info? 78).map (fun i => (i.zero, i.size, i.bytes)) = some (some (.agg #[.int .i64 0, .bool false]), 2, 16) := by kernel_rfl
theorem infoSt6 : (Try.prog.info? 87).map (·.size) = some 2 := by kernel_rfl
/-- eight registers' states as what is appended -/
theorem KnAt.src {w : World} {B b cap : Nat} {s : KSt} (h : KnAt w B (.slice (some ⟨b, 0, none⟩) 8 cap) s) : Src w 2 (some ⟨b, 0, none⟩) 8 (s.flatMap knCells) := by
  obtain ⟨h0, b', cap', R, h1, h2, h3, h4, h5, h6⟩ := h
  simp only [Value.slice.injEq, Option.some.injEq, Addr.mk.injEq, and_true, true_and] at h1
  obtain ⟨rfl, rfl⟩ := h1
  refine ⟨by rw [kn_size, h0], (fun e => by cases e), fun ad ha j u hu => ?_, fun u hu => ?_⟩
  · obtain rfl := Option.some.inj ha
    have hj : j < 16 := by
      have := (List.getElem?_eq_some_iff.1 hu).1
      rw [kn_size, h0] at this
      omega
    have := addr_add b 0 j
    rw [show (⟨b, 0, none⟩ : Addr).add j = ⟨b, 0 + j, none⟩ from this, Nat.zero_add, h5.cell, h6 j hj]
    unfold stV
    simpa using hu
  · have := stV_one s
    unfold stV at this
    rw [Array.all_eq_true'] at this
    exact this u (by simpa using hu)
theorem KnAt.ne {w : World} {B b cap : Nat} {s : KSt} (h : KnAt w B (.slice (some ⟨b, 0, none⟩) 8 cap) s) {g : Nat} {T : TypeId} {cs : Array Value} (hg : Blk w g T cs) (hT : 78 ≠ T) : b ≠ g := by
  obtain ⟨-, b', cap', R, e1, -, -, -, e5, -⟩ := h
  simp only [Value.slice.injEq, Option.some.injEq, Addr.mk.injEq, and_true, true_and] at e1
  rw [e1.1]
  exact Blk.ne_ e5 hg hT
theorem KnAt.base {w : World} {B b cap : Nat} {s : KSt} (h : KnAt w B (.slice (some ⟨b, 0, none⟩) 8 cap) s) : B ≤ b := by
  obtain ⟨b', cap', e1, -, -, e4⟩ := h.form
  simp only [Value.slice.injEq, Option.some.injEq, Addr.mk.injEq, and_true, true_and] at e1
  omega
def CopPost (w : World) (c : Bool) (s : KSt) (e : Ending) (w' : World) : Prop :=
  ∃ b cap, e = .returned (.agg #[.bool c, .slice (some ⟨b, 0, none⟩) 8 cap]) ∧ KnAt w' w.heap.size (.slice (some ⟨b, 0, none⟩) 8 cap) s ∧ Ext w w'
set_option maxRecDepth 100000 in
set_option maxHeartbeats 4000000 in
theorem copied_c (c : Bool) (b cap : Nat) (s : KSt) (w : World) {B : Nat} (h : KnAt w B (.slice (some ⟨b, 0, none⟩) 8 cap) s) :
    Calls Try.prog 95 #[.agg #[.bool c, .slice (some ⟨b, 0, none⟩) 8 cap]] w (CopPost w c s) := by
  have Hl := Lib.hid h.1
  have H := Lib.hid h
  obtain ⟨i0, hi0, hz0, hz1, hz2⟩ := info_parts infoKn3
  clear h
  go_enter Try.func95, Try.ntmps95
  go_upto_region 1 with fail
  obtain ⟨W, g, hg, hW, hx, bA, bB⟩ := blocks2 w #[.bool c, .slice (some ⟨b, 0, none⟩) 8 cap] #[.bool false, .slice none 0 0] 87 87
  rw [hW, hg]
  have X := Lib.hid hx
  have HB := Lib.hid bB
  have k0 : ∀ Wx, Ext W Wx → Wx.cell? ⟨g, 0, none⟩ = some (.bool c) := fun _ h => h.kept (by rw [bA.cell]; rfl)
  have k1 : ∀ Wx, Ext W Wx → Wx.cell? ⟨g, 1, none⟩ = some (.slice (some ⟨b, 0, none⟩) 8 cap) := fun _ h => h.kept (by rw [bA.cell]; rfl)
  have Hg := Lib.hid hg
  have hgl := bB.lt
  clear hW hx bA bB hg
  refine region_float [2, 5, 6, 7] 3 (by kernel_rfl) (by kernel_rfl) ?_
  repeat (first | (refine cw_heavy ?_ ?_; (decide)) | (refine cw_value ?_ ?_ ?_; (decide); (first | rfl | (focus (go_simp; done))); apply Exists.intro; refine ⟨fun wc hE => ?_, ?_⟩; (go_simp; exact rfl); go_simp) | (refine cw_skip ?_ ?_ ?_; (decide); (focus (go_simp; done)); go_simp))
  refine cw_nil ?_
  intro w2 hx
  have X2 := Lib.hid hx
  clear k0 k1
  refine wpF_soft rfl ?_
  go_wp2
  refine ⟨hx.alloc _, ?_⟩
  refine wpF_soft rfl ?_
  simp only [List.getElem_toArray, List.getElem_cons_succ, List.getElem_cons_zero]
  have H2 := Lib.hid ((H.out.ext (X.out.trans hx)).ext ((Ext.refl w2).alloc (.cells #[] 78)))
  go_wp2_with (at_builtin; refine wpList_append_src _ rfl _ _ 85 rfl w.heap.size 78 i0 _ 2 16 Try.underlying85 hi0 hz0 hz1 hz2 rfl (by decide) _ 0 [] rfl ?c0 (some ⟨b, 0, none⟩) 8 cap (s.flatMap knCells) rfl ?c1 ?c3 ?c4 ?c5 ?_)
  case c0 =>
    have hws : w.heap.size ≤ w2.heap.size := (X.out.trans X2.out).size
    have h := World.ownsRow_lit (base := w.heap.size) (e := 78) (size := 2) w2 #[] 0 hws (by decide) rfl
    simpa [Act.eval] using h
  case c1 => exact H2.out.src
  case c3 => decide
  case c4 => decide
  case c5 => have := (X.out.trans X2.out).size; simp; omega
  intro v1 w3 hown hgrow hat
  obtain ⟨o1, c1, rfl⟩ := own_slice hown
  have hx3 : Ext W w3 := (X2.out.alloc _).grown hgrow (by
    intro k hk
    simp [Act.eval, Value.ownBlock] at hk
    have := X2.out.size
    omega)
  have KN := KnAt.own (B := w.heap.size) Hl.out hown
  obtain ⟨b1, cap1, hv, hc8, -, hB1⟩ := KN.form
  simp only [Value.slice.injEq, true_and] at hv
  obtain ⟨rfl, rfl⟩ := hv
  have X3 := Lib.hid hx3
  have KN := Lib.hid KN
  have bB := HB.out.ext hx3
  have hgl := bB.lt
  have r0 : w3.cell? ⟨g + 1, 0, none⟩ = some (.bool false) ∧ w3.frozen? ⟨g + 1, 0, none⟩ = false := ⟨by rw [bB.cell]; rfl, bB.frozen _⟩
  have r1 : w3.cell? ⟨g + 1, 1, none⟩ = some (.slice none 0 0) ∧ w3.frozen? ⟨g + 1, 1, none⟩ = false := ⟨by rw [bB.cell]; rfl, bB.frozen _⟩
  clear hown hgrow hat hx hx3 H2 bB
  go_wp2
  refine ⟨X3.out, ?_⟩
  refine wpF_soft rfl ?_
  go_wp2
  refine ⟨X3.out, ?_⟩
  refine wpF_hard (heavies_cons rfl (heavies_nil)) ?_
  go_wp2
  have hB := ((HB.out.ext X3.out).set_ 0 (.bool c)).set_ 1 (.slice (some ⟨b1, 0, none⟩) 8 c1)
  have hgw : w.heap.size ≤ g + 1 := by have := Hg.out; omega
  refine bodyPost_ret (results_blk hB rfl _ rfl Try.underlying87 rfl infoSt6) rfl ?_
  refine ⟨b1, c1, rfl, ?_, ((X.out.trans X3.out).setCell (p := ⟨g + 1, _, none⟩) hgw _).setCell (p := ⟨g + 1, _, none⟩) hgw _⟩
  have b3 := HB.out.ext X3.out
  exact (KN.out.far (p := ⟨g + 1, 0, none⟩) b3 (by decide) _).far (p := ⟨g + 1, 1, none⟩) (b3.set_ _ _) (by decide) _
set_option maxHeartbeats 4000000 in
theorem index6_c (k : LKn) (n : Int) (w : World) :
    Calls Try.prog 57 #[.agg #[.int .i64 k.bits, .bool k.sec], .int .i64 n] w fun e w' => e = .returned (.agg #[.int .i64 (ksum k n).bits, .bool (ksum k n).sec]) ∧ Ext w w' := by
  obtain ⟨b, sc⟩ := k
  simp only
  by_cases hn : n < 0
  · have Hs : Hid (ksum ⟨b, sc⟩ n = ⟨17, sc⟩) := Lib.hid (by simp [ksum, hn])
    go_enter Try.func57, Try.ntmps57
    go_upto_region 1 with fail
    obtain ⟨W, g, hg, hW, hx, bA, bB⟩ := blocks2 w #[.int .i64 b, .bool sc] #[.int .i64 0, .bool false] 78 78
    rw [hW, hg]
    have X := Lib.hid hx
    have HB := Lib.hid bB
    have hgw : w.heap.size ≤ g + 1 := by omega
    have k1 : W.cell? ⟨g, 1, none⟩ = some (.bool sc) := by rw [bA.cell]; rfl
    have r0 : W.cell? ⟨g + 1, 0, none⟩ = some (.int .i64 0) ∧ W.frozen? ⟨g + 1, 0, none⟩ = false := ⟨by rw [bB.cell]; rfl, bB.frozen _⟩
    have r1 : W.cell? ⟨g + 1, 1, none⟩ = some (.bool false) ∧ W.frozen? ⟨g + 1, 1, none⟩ = false := ⟨by rw [bB.cell]; rfl, bB.frozen _⟩
    have hgl := bB.lt
    clear hW hg hx bA bB
    go_wp2
    rw [Hs.out]
    have hb := (HB.out.set_ 0 (.int .i64 17)).set_ 1 (.bool sc)
    exact bodyPost_ret (results_blk hb rfl _ rfl Try.underlying78 rfl infoKnown) rfl ⟨rfl, (X.out.setCell hgw _).setCell hgw _⟩
  · have Hs : Hid (ksum ⟨b, sc⟩ n = ⟨kop 1 (nrm b) (nrm (kof n)), sc⟩) := Lib.hid (by simp [ksum, hn, kopK, kofK])
    go_enter Try.func57, Try.ntmps57
    go_upto_region 1 with fail
    obtain ⟨W, g, hg, hW, hx, bA, bB⟩ := blocks2 w #[.int .i64 b, .bool sc] #[.int .i64 0, .bool false] 78 78
    rw [hW, hg]
    have X := Lib.hid hx
    have HB := Lib.hid bB
    have HA := Lib.hid bA
    have hgw : w.heap.size ≤ g + 1 := by omega
    clear hW hg hx bA bB
    go_wp2_with fail
    have C := rOf_c n W
    (with_reducible refine C.mono ?_)
    clear C
    rintro e w1 ⟨rfl, hx⟩
    have X := Lib.hid (X.out.trans hx)
    have HB := Lib.hid (HB.out.ext hx)
    have bA := HA.out.ext hx
    have HA := Lib.hid bA
    have k0 : w1.cell? ⟨g, 0, none⟩ = some (.int .i64 b) := by rw [bA.cell]; rfl
    have k1 : w1.cell? ⟨g, 1, none⟩ = some (.bool sc) := by rw [bA.cell]; rfl
    have hgl := HB.out.lt
    have hgl0 := bA.lt
    clear hx bA
    go_wp2_with fail
    (with_reducible refine (rKop_c 1 b (kof n) sc false _).mono ?_)
    rintro e w2 ⟨rfl, hx⟩
    have X := Lib.hid ((X.out.alloc _).trans hx)
    have HB := Lib.hid ((HB.out.alloc _).ext hx)
    have bB := HB.out
    have r0 : w2.cell? ⟨g + 1, 0, none⟩ = some (.int .i64 0) ∧ w2.frozen? ⟨g + 1, 0, none⟩ = false := ⟨by rw [bB.cell]; rfl, bB.frozen _⟩
    have r1 : w2.cell? ⟨g + 1, 1, none⟩ = some (.bool false) ∧ w2.frozen? ⟨g + 1, 1, none⟩ = false := ⟨by rw [bB.cell]; rfl, bB.frozen _⟩
    have hgl := bB.lt
    clear hx bB k0 k1
    go_wp2
    rw [Hs.out]
    have hb := (HB.out.set_ 0 (.int .i64 (kop 1 (nrm b) (nrm (kof n))))).set_ 1 (.bool sc)
    exact bodyPost_ret (results_blk hb rfl _ rfl Try.underlying78 rfl infoKnown) rfl ⟨rfl, (X.out.setCell hgw _).setCell hgw _⟩
set_option maxRecDepth 100000 in
set_option maxHeartbeats 4000000 in
theorem less6_c (c : Bool) (b cap : Nat) (s : KSt) (reg : Int) (x y : LKn) (hr : okIn 8 reg = true) (w : World) {B : Nat} (h : KnAt w B (.slice (some ⟨b, 0, none⟩) 8 cap) s) :
    Calls Try.prog 96 #[.agg #[.bool c, .slice (some ⟨b, 0, none⟩) 8 cap], .int .i64 reg, .agg #[.int .i64 x.bits, .bool x.sec], .agg #[.int .i64 y.bits, .bool y.sec]] w (CopPost w c (kset s reg (kless x y))) := by
  have H := Lib.hid h
  have Hr := Lib.hid hr
  obtain ⟨hr0, hr1⟩ := okIn_iff.1 hr
  obtain ⟨xb, xs⟩ := x
  obtain ⟨yb, ys⟩ := y
  simp only
  clear h hr
  go_enter Try.func96, Try.ntmps96
  go_upto_region 1 with fail
  obtain ⟨W, g, hg, hW, hx, bA, bX, bY, bR⟩ := blocks4 w #[.bool c, .slice (some ⟨b, 0, none⟩) 8 cap] #[.int .i64 xb, .bool xs] #[.int .i64 yb, .bool ys] #[.bool false, .slice none 0 0] 87 78 78 87
  rw [hW, hg]
  have X := Lib.hid hx
  have Hg := Lib.hid hg
  have BX := Lib.hid bX
  have BY := Lib.hid bY
  have BR := Lib.hid bR
  have c0 : W.cell? ⟨g, 0, none⟩ = some (.bool c) := by rw [bA.cell]; rfl
  have c1 : W.cell? ⟨g, 1, none⟩ = some (.slice (some ⟨b, 0, none⟩) 8 cap) := by rw [bA.cell]; rfl
  clear hW hg hx bA bX bY bR
  go_wp2_with fail
  have C := copied_c c b cap s W (H.out.ext X.out)
  (with_reducible refine C.mono ?_)
  clear C
  rintro e w1 ⟨b1, cap1, rfl, hK, hx⟩
  have K := Lib.hid hK
  have X1 := Lib.hid hx
  clear hK hx c0 c1
  go_upto_region 2 with fail
  obtain ⟨w2, e, he, hW, hx, bE⟩ := block1 w1 #[.bool c, .slice (some ⟨b1, 0, none⟩) 8 cap1] 87
  rw [hW, he]
  have X2 := Lib.hid hx
  have BE := Lib.hid bE
  have hWx := X1.out.trans hx
  have bX := BX.out.ext hWx
  have bY := BY.out.ext hWx
  have k1 : ∀ Wx, Ext w2 Wx → Wx.cell? ⟨e, 1, none⟩ = some (.slice (some ⟨b1, 0, none⟩) 8 cap1) := fun _ h => h.kept (by rw [bE.cell]; rfl)
  have x0 : ∀ Wx, Ext w2 Wx → Wx.cell? ⟨g + 1, 0, none⟩ = some (.int .i64 xb) := fun _ h => h.kept (by rw [bX.cell]; rfl)
  have x1 : ∀ Wx, Ext w2 Wx → Wx.cell? ⟨g + 1, 1, none⟩ = some (.bool xs) := fun _ h => h.kept (by rw [bX.cell]; rfl)
  have y0 : ∀ Wx, Ext w2 Wx → Wx.cell? ⟨g + 1 + 1, 0, none⟩ = some (.int .i64 yb) := fun _ h => h.kept (by rw [bY.cell]; rfl)
  have y1 : ∀ Wx, Ext w2 Wx → Wx.cell? ⟨g + 1 + 1, 1, none⟩ = some (.bool ys) := fun _ h => h.kept (by rw [bY.cell]; rfl)
  clear hW hx he hWx bX bY bE
  refine region_float [5, 6, 7] 1 (by kernel_rfl) (by kernel_rfl) ?_
  repeat (first | (refine cw_heavy ?_ ?_; (decide)) | (refine cw_value ?_ ?_ ?_; (decide); (first | rfl | (focus (go_simp; done))); apply Exists.intro; refine ⟨fun wc hE => ?_, ?_⟩; (go_simp; exact rfl); go_simp) | (refine cw_skip ?_ ?_ ?_; (decide); (focus (go_simp; done)); go_simp))
  refine cw_nil ?_
  intro w3 hx
  have X3 := Lib.hid (X2.out.trans hx)
  have BE := Lib.hid (BE.out.ext hx)
  have X3' := Lib.hid hx
  clear k1 x0 x1 y0 y1 hx
  refine wpF_soft rfl ?_
  go_wp2_with fail
  (with_reducible refine (rLess_c xb yb xs ys w3).mono ?_)
  rintro er w4 ⟨rfl, hx⟩
  have X4 := Lib.hid (X3.out.trans hx)
  have BE := Lib.hid (BE.out.ext hx)
  have X4' := Lib.hid (X3'.out.trans hx)
  have K4 := K.out.ext X4.out
  obtain ⟨p0, p1⟩ := K4.cell Hr.out
  have hbl := block_lt p0.1
  simp only at hbl
  have K4 := Lib.hid K4
  have hix := index_kn b1 cap1
  clear hx
  go_wp2
  refine ⟨X4'.out, ?_⟩
  refine wpF_hard (heavies_cons rfl (heavies_cons rfl (heavies_nil))) ?_
  have BR4 := Lib.hid (BR.out.ext (X1.out.trans X4.out))
  have hne : b1 ≠ e := K4.out.ne BE.out (by decide)
  have hne2 : b1 ≠ g + 1 + 1 + 1 := K4.out.ne BR4.out (by decide)
  have hne3 : ¬ e = b1 := fun h => hne h.symm
  have hel := BE.out.lt
  have hgl := BR4.out.lt
  have q0 : w4.cell? ⟨e, 0, none⟩ = some (.bool c) := by rw [BE.out.cell]; rfl
  have q1 : w4.cell? ⟨e, 1, none⟩ = some (.slice (some ⟨b1, 0, none⟩) 8 cap1) := by rw [BE.out.cell]; rfl
  have r0 : w4.cell? ⟨g + 1 + 1 + 1, 0, none⟩ = some (.bool false) ∧ w4.frozen? ⟨g + 1 + 1 + 1, 0, none⟩ = false := ⟨by rw [BR4.out.cell]; rfl, BR4.out.frozen _⟩
  have r1 : w4.cell? ⟨g + 1 + 1 + 1, 1, none⟩ = some (.slice none 0 0) ∧ w4.frozen? ⟨g + 1 + 1 + 1, 1, none⟩ = false := ⟨by rw [BR4.out.cell]; rfl, BR4.out.frozen _⟩
  go_wp2
  have hK5 := K4.out.put Hr.out (kless ⟨xb, xs⟩ ⟨yb, ys⟩)
  have hR5 := (BR4.out.far (p := ⟨b1, reg.toNat * 2, none⟩) (fun h => hne2 h.symm) (.int .i64 (min (nrm xb) (nrm yb)))).far (p := ⟨b1, reg.toNat * 2 + 1, none⟩) (fun h => hne2 h.symm) (.bool xs)
  have hB := (hR5.set_ 0 (.bool c)).set_ 1 (.slice (some ⟨b1, 0, none⟩) 8 cap1)
  have hgw : w.heap.size ≤ g + 1 + 1 + 1 := by have := Hg.out; omega
  have hbw : w.heap.size ≤ b1 := by
    obtain ⟨b', cap', e1, -, -, e4⟩ := K4.out.form
    simp only [Value.slice.injEq, Option.some.injEq, Addr.mk.injEq, and_true, true_and] at e1
    have := X.out.size
    omega
  refine bodyPost_ret (results_blk hB rfl _ rfl Try.underlying87 rfl infoSt6) rfl ?_
  refine ⟨b1, cap1, rfl, ?_, (((((X.out.trans X1.out).trans X4.out).setCell (p := ⟨b1, _, none⟩) hbw _).setCell (p := ⟨b1, _, none⟩) hbw _).setCell (p := ⟨g + 1 + 1 + 1, _, none⟩) hgw _).setCell (p := ⟨g + 1 + 1 + 1, _, none⟩) hgw _⟩
  exact ((hK5.mono X.out.size).far (p := ⟨g + 1 + 1 + 1, 0, none⟩) hR5 (by decide) _).far (p := ⟨g + 1 + 1 + 1, 1, none⟩) (hR5.set_ _ _) (by decide) _
theorem ne_kn (a b : LKn) (w : World) : (binOp .neq 78 (.agg #[.int .i64 a.bits, .bool a.sec]) (.agg #[.int .i64 b.bits, .bool b.sec])).run Try.prog w = .ok (.bool (!decide (a = b))) w := by
  obtain ⟨x, y⟩ := a
  obtain ⟨u, v⟩ := b
  rw [run_neq_struct]
  go_simp
  by_cases h1 : x = u <;> by_cases h2 : y = v <;> simp [h1, h2]
theorem same6_none (v : Value) (b cap : Nat) (w : World) :
    Calls Try.prog 94 #[.agg #[.bool true, .slice (some ⟨b, 0, none⟩) 8 cap], .agg #[.bool false, .slice none 0 0]] w fun e w' => e = .returned (.bool false) ∧ Ext w w' := by
  go_enter Try.func94, Try.ntmps94
  go_wp2
  go_ret
  exact ⟨rfl, ((Ext.refl _).alloc _).alloc _⟩
/-- the first j registers are the same -/
theorem same_upto {s t : KSt} {j : Nat} (hs : s.length = 8) (ht : t.length = 8) (h : ∀ r, r < j → s.getD r default = t.getD r default) (hj : 8 ≤ j) : s = t := by
  apply List.ext_getElem (by rw [hs, ht])
  intro r h1 h2
  have := h r (by omega)
  simpa [h1, h2] using this
set_option maxRecDepth 100000 in
set_option maxHeartbeats 4000000 in
theorem same6_c (s t : KSt) (b cap d capd : Nat) {B B' : Nat} (w : World) (h : KnAt w B (.slice (some ⟨b, 0, none⟩) 8 cap) s) (k : KnAt w B' (.slice (some ⟨d, 0, none⟩) 8 capd) t) :
    Calls Try.prog 94 #[.agg #[.bool true, .slice (some ⟨b, 0, none⟩) 8 cap], .agg #[.bool true, .slice (some ⟨d, 0, none⟩) 8 capd]] w fun e w' => e = .returned (.bool (decide (s = t))) ∧ Ext w w' := by
  have H := Lib.hid h
  have K := Lib.hid k
  have hix := index_kn b cap
  have hix2 := index_kn d capd
  have hne := ne_kn
  clear h k
  go_enter Try.func94, Try.ntmps94
  go_upto_region 1 with fail
  obtain ⟨W, g, hg, hW, hx, bA, bB⟩ := blocks2 w #[.bool true, .slice (some ⟨b, 0, none⟩) 8 cap] #[.bool true, .slice (some ⟨d, 0, none⟩) 8 capd] 87 87
  rw [hW, hg]
  have X := Lib.hid hx
  have BA := Lib.hid bA
  have BB := Lib.hid bB
  have a0 : W.cell? ⟨g, 0, none⟩ = some (.bool true) := by rw [bA.cell]; rfl
  have a1 : W.cell? ⟨g, 1, none⟩ = some (.slice (some ⟨b, 0, none⟩) 8 cap) := by rw [bA.cell]; rfl
  have b0 : W.cell? ⟨g + 1, 0, none⟩ = some (.bool true) := by rw [bB.cell]; rfl
  have b1 : W.cell? ⟨g + 1, 1, none⟩ = some (.slice (some ⟨d, 0, none⟩) 8 capd) := by rw [bB.cell]; rfl
  clear hW hg hx bA bB
  go_wp2_with fail
  go_loopw [5] (fun i wr => ∃ j : Nat, j ≤ 8 ∧ i = .int .i64 j ∧ (∀ r, r < j → s.getD r default = t.getD r default) ∧ Ext W wr) (fun i _ => 8 - (intOf i).toNat)
  case atStart => exact ⟨0, by omega, rfl, fun r hr => by omega, Ext.refl _⟩
  case round =>
    obtain ⟨j, hj, rfl, hjs, hE⟩ := hrel
    have XE := Lib.hid hE
    have Hjs := Lib.hid hjs
    have a1 := hE.kept a1
    have b1 := hE.kept b1
    clear hE hjs
    by_cases hlt : j < 8
    · obtain ⟨⟨x0, -⟩, ⟨x1, -⟩⟩ := (H.out.ext (X.out.trans XE.out)).cell (a := (j : Int)) (okIn_iff.2 ⟨by omega, by omega⟩)
      obtain ⟨⟨y0, -⟩, ⟨y1, -⟩⟩ := (K.out.ext (X.out.trans XE.out)).cell (a := (j : Int)) (okIn_iff.2 ⟨by omega, by omega⟩)
      have e1 : kg s (j : Int) = s.getD j default := by unfold kg; rw [Int.toNat_natCast]
      have e2 : kg t (j : Int) = t.getD j default := by unfold kg; rw [Int.toNat_natCast]
      rw [e1] at x0 x1
      rw [e2] at y0 y1
      simp only [Int.toNat_natCast] at x0 x1 y0 y1
      have Hnext : Hid (s.getD j default = t.getD j default → ∀ r, r < j + 1 → s.getD r default = t.getD r default) := Lib.hid fun he r hr => by
        by_cases hrj : r = j
        · rw [hrj]; exact he
        · exact Hjs.out r (by omega)
      have Hdiff : Hid (¬ s.getD j default = t.getD j default → decide (s = t) = false) := Lib.hid fun he => by
        simp only [decide_eq_false_iff_not]
        intro h
        exact he (by rw [h])
      generalize s.getD j default = x at *
      generalize t.getD j default = y at *
      have k0 : ∀ Wx, Ext wr Wx → Wx.cell? ⟨b, j * 2, none⟩ = some (.int .i64 x.bits) := fun _ h => h.kept x0
      have k1 : ∀ Wx, Ext wr Wx → Wx.cell? ⟨b, j * 2 + 1, none⟩ = some (.bool x.sec) := fun _ h => h.kept x1
      have l0 : ∀ Wx, Ext wr Wx → Wx.cell? ⟨d, j * 2, none⟩ = some (.int .i64 y.bits) := fun _ h => h.kept y0
      have l1 : ∀ Wx, Ext wr Wx → Wx.cell? ⟨d, j * 2 + 1, none⟩ = some (.bool y.sec) := fun _ h => h.kept y1
      have m1 : ∀ Wx, Ext wr Wx → Wx.cell? ⟨g, 1, none⟩ = some (.slice (some ⟨b, 0, none⟩) 8 cap) := fun _ h => h.kept a1
      have n1 : ∀ Wx, Ext wr Wx → Wx.cell? ⟨g + 1, 1, none⟩ = some (.slice (some ⟨d, 0, none⟩) 8 capd) := fun _ h => h.kept b1
      clear x0 x1 y0 y1
      go_upto_region 6 with fail
      refine region_calm 11 (by kernel_rfl) (by kernel_rfl) ?_
      simp only [List.take_succ_cons, List.take_zero, List.drop_succ_cons, List.drop_zero]
      repeat (first | (refine calm_fresh ?_ ?_ (fun wc hE => ?_) ?_; (decide); rfl; (focus (go_simp; done)); go_simp) | (refine calm_value ?_ ?_ ?_; (decide); (first | rfl | (focus (go_simp; done))); apply Exists.intro; refine ⟨fun wc hE => ?_, ?_⟩; (go_simp; exact rfl); go_simp) | (refine calm_call ?_ ?_ ?_; (decide); (first | rfl | (focus (go_simp; done))); apply Exists.intro; refine ⟨fun wc hE => ?_, ?_⟩; (go_simp; (first | fail)); go_simp) | (refine calm_skip ?_ ?_ ?_; (decide); (focus (go_simp; done)); go_simp))
      refine calm_nil ?_
      intro wx hx
      have X2 := Lib.hid (XE.out.trans hx)
      clear hx k0 k1 l0 l1 m1 n1
      by_cases hxy : x = y
      · have hd : decide (x = y) = true := by simpa using hxy
        have Hn := Lib.hid (Hnext.out hxy)
        rw [hd]
        clear hxy
        go_wp2
        go_roundw
        case rel => exact ⟨j + 1, by omega, by go_num, Hn.out, X2.out⟩
        case measure => first | (simp [intOf]; done) | (simp [intOf]; omega)
      · have hd : decide (x = y) = false := by simpa using hxy
        have Hn := Lib.hid (Hdiff.out hxy)
        rw [hd]
        clear hxy
        go_wp2
        go_ret
        rw [Hn.out]
        exact ⟨rfl, X.out.trans X2.out⟩
    · have hje : j = 8 := by omega
      subst hje
      have Hn : Hid (decide (s = t) = true) := Lib.hid (by
        simp only [decide_eq_true_eq]
        exact same_upto H.out.1 K.out.1 Hjs.out (by omega))
      go_wp2
      go_ret
      rw [Hn.out]
      exact ⟨rfl, X.out.trans XE.out⟩
set_option maxRecDepth 100000 in
set_option maxHeartbeats 4000000 in
theorem join6_none (s : KSt) (b cap : Nat) {B : Nat} (w : World) (h : KnAt w B (.slice (some ⟨b, 0, none⟩) 8 cap) s) :
    Calls Try.prog 93 #[.agg #[.bool false, .slice none 0 0], .agg #[.bool true, .slice (some ⟨b, 0, none⟩) 8 cap]] w (CopPost w true s) := by
  have H := Lib.hid h
  clear h
  go_enter Try.func93, Try.ntmps93
  go_upto_region 1 with fail
  obtain ⟨W, g, hg, hW, hx, bA, bB, bR⟩ := blocks3 w #[.bool false, .slice none 0 0] #[.bool true, .slice (some ⟨b, 0, none⟩) 8 cap] #[.bool false, .slice none 0 0] 87 87 87
  rw [hW, hg]
  have X := Lib.hid hx
  have Hg := Lib.hid hg
  have BR := Lib.hid bR
  have a0 : W.cell? ⟨g, 0, none⟩ = some (.bool false) := by rw [bA.cell]; rfl
  have b0 : W.cell? ⟨g + 1, 0, none⟩ = some (.bool true) := by rw [bB.cell]; rfl
  have b1 : W.cell? ⟨g + 1, 1, none⟩ = some (.slice (some ⟨b, 0, none⟩) 8 cap) := by rw [bB.cell]; rfl
  clear hW hg hx bA bB bR
  go_wp2_with fail
  have C := copied_c true b cap s W (H.out.ext X.out)
  (with_reducible refine C.mono ?_)
  clear C
  rintro e w1 ⟨b2, cap2, rfl, hK, hx⟩
  have K := Lib.hid hK
  have X1 := Lib.hid hx
  have bR := BR.out.ext hx
  have BR1 := Lib.hid bR
  have hgl := bR.lt
  have r0 : w1.cell? ⟨g + 1 + 1, 0, none⟩ = some (.bool false) ∧ w1.frozen? ⟨g + 1 + 1, 0, none⟩ = false := ⟨by rw [bR.cell]; rfl, bR.frozen _⟩
  have r1 : w1.cell? ⟨g + 1 + 1, 1, none⟩ = some (.slice none 0 0) ∧ w1.frozen? ⟨g + 1 + 1, 1, none⟩ = false := ⟨by rw [bR.cell]; rfl, bR.frozen _⟩
  clear hK hx a0 b0 b1 bR
  go_wp2
  have hB := (BR1.out.set_ 0 (.bool true)).set_ 1 (.slice (some ⟨b2, 0, none⟩) 8 cap2)
  have hgw : w.heap.size ≤ g + 1 + 1 := by have := Hg.out; omega
  refine bodyPost_ret (results_blk hB rfl _ rfl Try.underlying87 rfl infoSt6) rfl ?_
  refine ⟨b2, cap2, rfl, ?_, ((X.out.trans X1.out).setCell (p := ⟨g + 1 + 1, _, none⟩) hgw _).setCell (p := ⟨g + 1 + 1, _, none⟩) hgw _⟩
  exact ((K.out.mono X.out.size).far (p := ⟨g + 1 + 1, 0, none⟩) BR1.out (by decide) _).far (p := ⟨g + 1 + 1, 1, none⟩) (BR1.out.set_ _ _) (by decide) _
set_option maxRecDepth 100000 in
set_option maxHeartbeats 4000000 in
theorem join6_c (s t : KSt) (b cap d capd : Nat) {B B' : Nat} (w : World) (h : KnAt w B (.slice (some ⟨b, 0, none⟩) 8 cap) s) (k : KnAt w B' (.slice (some ⟨d, 0, none⟩) 8 capd) t) :
    Calls Try.prog 93 #[.agg #[.bool true, .slice (some ⟨b, 0, none⟩) 8 cap], .agg #[.bool true, .slice (some ⟨d, 0, none⟩) 8 capd]] w (CopPost w true (sjoin s t)) := by
  have H := Lib.hid h
  have K := Lib.hid k
  have hix := index_kn b cap
  have hix2 := index_kn d capd
  clear h k
  go_enter Try.func93, Try.ntmps93
  go_upto_region 1 with fail
  obtain ⟨W, g, hg, hW, hx, bA, bB, bR⟩ := blocks3 w #[.bool true, .slice (some ⟨b, 0, none⟩) 8 cap] #[.bool true, .slice (some ⟨d, 0, none⟩) 8 capd] #[.bool false, .slice none 0 0] 87 87 87
  rw [hW, hg]
  have X := Lib.hid hx
  have Hg := Lib.hid hg
  have BR := Lib.hid bR
  have a0 : W.cell? ⟨g, 0, none⟩ = some (.bool true) := by rw [bA.cell]; rfl
  have a1 : W.cell? ⟨g, 1, none⟩ = some (.slice (some ⟨b, 0, none⟩) 8 cap) := by rw [bA.cell]; rfl
  have b1 : W.cell? ⟨g + 1, 1, none⟩ = some (.slice (some ⟨d, 0, none⟩) 8 capd) := by rw [bB.cell]; rfl
  clear hW hg hx bA bB bR
  go_wp2_with fail
  have C := copied_c true b cap s W (H.out.ext X.out)
  (with_reducible refine C.mono ?_)
  clear C
  rintro er w1 ⟨b2, cap2, rfl, hK, hx⟩
  have hix3 := index_kn b2 cap2
  have KK := Lib.hid hK
  have X1 := Lib.hid hx
  have HA1 := Lib.hid a1
  have HB1 := Lib.hid b1
  clear hK hx a0 a1 b1
  go_upto_region 4 with fail
  obtain ⟨w2, e, he, hW, hx, bE⟩ := block1 w1 #[.bool true, .slice (some ⟨b2, 0, none⟩) 8 cap2] 87
  rw [hW, he]
  have X2 := Lib.hid (X1.out.trans hx)
  have K2 := Lib.hid (KK.out.ext hx)
  have hb2 : b2 ≠ e := K2.out.ne bE (by decide)
  have hWe : W.heap.size ≤ e := by have := X1.out.size; omega
  have HWe := Lib.hid hWe
  clear hW he hx
  go_wp2_with fail
  go_loopw [6] (fun i wr => ∃ j : Nat, j ≤ 8 ∧ i = .int .i64 j ∧ KnAt wr W.heap.size (.slice (some ⟨b2, 0, none⟩) 8 cap2) (mixJ s t j) ∧ Blk wr e 87 #[.bool true, .slice (some ⟨b2, 0, none⟩) 8 cap2] ∧ Ext W wr) (fun i _ => 8 - (intOf i).toNat)
  case atStart => exact ⟨0, by omega, rfl, by rw [mix_zero H.out.1]; exact K2.out, bE, X2.out⟩
  case round =>
    obtain ⟨j, hj, rfl, hM, bE, hE⟩ := hrel
    have XE := Lib.hid hE
    have M := Lib.hid hM
    have BE := Lib.hid bE
    have e1 : wr.cell? ⟨e, 1, none⟩ = some (.slice (some ⟨b2, 0, none⟩) 8 cap2) := by rw [bE.cell]; rfl
    have hel := bE.lt
    by_cases hlt : j < 8
    · have hjo : okIn 8 (j : Int) = true := okIn_iff.2 ⟨by omega, by omega⟩
      have Hjo := Lib.hid hjo
      obtain ⟨⟨x0, -⟩, ⟨x1, -⟩⟩ := (H.out.ext (X.out.trans hE)).cell (a := (j : Int)) hjo
      obtain ⟨⟨y0, -⟩, ⟨y1, -⟩⟩ := (K.out.ext (X.out.trans hE)).cell (a := (j : Int)) hjo
      have f1 : kg s (j : Int) = s.getD j default := by unfold kg; rw [Int.toNat_natCast]
      have f2 : kg t (j : Int) = t.getD j default := by unfold kg; rw [Int.toNat_natCast]
      rw [f1] at x0 x1
      rw [f2] at y0 y1
      simp only [Int.toNat_natCast] at x0 x1 y0 y1
      have Hnext := Lib.hid (mix_succ s t hlt)
      generalize s.getD j default = x at *
      generalize t.getD j default = y at *
      have k0 : ∀ Wx, Ext wr Wx → Wx.cell? ⟨b, j * 2, none⟩ = some (.int .i64 x.bits) := fun _ h => h.kept x0
      have k1 : ∀ Wx, Ext wr Wx → Wx.cell? ⟨b, j * 2 + 1, none⟩ = some (.bool x.sec) := fun _ h => h.kept x1
      have l0 : ∀ Wx, Ext wr Wx → Wx.cell? ⟨d, j * 2, none⟩ = some (.int .i64 y.bits) := fun _ h => h.kept y0
      have l1 : ∀ Wx, Ext wr Wx → Wx.cell? ⟨d, j * 2 + 1, none⟩ = some (.bool y.sec) := fun _ h => h.kept y1
      have m1 : ∀ Wx, Ext wr Wx → Wx.cell? ⟨g, 1, none⟩ = some (.slice (some ⟨b, 0, none⟩) 8 cap) := fun _ h => h.kept (hE.kept HA1.out)
      have n1 : ∀ Wx, Ext wr Wx → Wx.cell? ⟨g + 1, 1, none⟩ = some (.slice (some ⟨d, 0, none⟩) 8 capd) := fun _ h => h.kept (hE.kept HB1.out)
      have o1 : ∀ Wx, Ext wr Wx → Wx.cell? ⟨e, 1, none⟩ = some (.slice (some ⟨b2, 0, none⟩) 8 cap2) := fun _ h => h.kept e1
      clear x0 x1 y0 y1 hE hM bE hjo
      go_upto_region 7 with fail
      clear e1
      refine region_float [13, 14, 15] 1 (by kernel_rfl) (by kernel_rfl) ?_
      repeat (first | (refine cw_heavy ?_ ?_; (decide)) | (refine cw_value ?_ ?_ ?_; (decide); (first | rfl | (focus (go_simp; done))); apply Exists.intro; refine ⟨fun wc hE => ?_, ?_⟩; (go_simp; exact rfl); go_simp) | (refine cw_skip ?_ ?_ ?_; (decide); (focus (go_simp; done)); go_simp))
      refine cw_nil ?_
      intro w3 hx
      have X3 := Lib.hid hx
      clear k0 k1 l0 l1 m1 n1 o1 hx
      refine wpF_soft rfl ?_
      go_wp2_with fail
      (with_reducible refine (rJoin_c x.bits y.bits x.sec y.sec w3).mono ?_)
      rintro er w4 ⟨rfl, hx⟩
      have X4 := Lib.hid (X3.out.trans hx)
      have M4 := M.out.ext X4.out
      obtain ⟨p0, p1⟩ := M4.cell Hjo.out
      simp only [Int.toNat_natCast] at p0 p1
      have hbl := block_lt p0.1
      simp only at hbl
      have M4 := Lib.hid M4
      clear hx
      go_wp2
      refine ⟨X4.out, ?_⟩
      refine wpF_hard (heavies_cons rfl (heavies_cons rfl (heavies_nil))) ?_
      go_wp2
      go_roundw
      case rel =>
        refine ⟨j + 1, by omega, by go_num, ?_, ?_, ?_⟩
        · have := M4.out.put Hjo.out (kjoin x y)
          rw [Hnext.out] at this
          simpa [kjoin] using this
        · exact ((BE.out.ext X4.out).far (p := ⟨b2, j * 2, none⟩) (fun h => hb2 h.symm) _).far (p := ⟨b2, j * 2 + 1, none⟩) (fun h => hb2 h.symm) _
        · have hbw : W.heap.size ≤ b2 := by
            obtain ⟨b', cap', e1, -, -, e4⟩ := M4.out.form
            simp only [Value.slice.injEq, Option.some.injEq, Addr.mk.injEq, and_true, true_and] at e1
            omega
          exact ((XE.out.trans X4.out).setCell (p := ⟨b2, j * 2, none⟩) hbw _).setCell (p := ⟨b2, j * 2 + 1, none⟩) hbw _
      case measure => first | (simp [intOf]; done) | (simp [intOf]; omega)
    · have hje : j = 8 := by omega
      subst hje
      have MM := hM
      rw [mix_all] at MM
      have MM := Lib.hid MM
      have BR1 := Lib.hid (BR.out.ext hE)
      have hgl := BR1.out.lt
      have e0 : wr.cell? ⟨e, 0, none⟩ = some (.bool true) := by rw [bE.cell]; rfl
      have r0 : wr.cell? ⟨g + 1 + 1, 0, none⟩ = some (.bool false) ∧ wr.frozen? ⟨g + 1 + 1, 0, none⟩ = false := ⟨by rw [BR1.out.cell]; rfl, BR1.out.frozen _⟩
      have r1 : wr.cell? ⟨g + 1 + 1, 1, none⟩ = some (.slice none 0 0) ∧ wr.frozen? ⟨g + 1 + 1, 1, none⟩ = false := ⟨by rw [BR1.out.cell]; rfl, BR1.out.frozen _⟩
      clear hM hE bE
      go_wp2
      have hB := (BR1.out.set_ 0 (.bool true)).set_ 1 (.slice (some ⟨b2, 0, none⟩) 8 cap2)
      have hgw : w.heap.size ≤ g + 1 + 1 := by have := Hg.out; omega
      refine bodyPost_ret (results_blk hB rfl _ rfl Try.underlying87 rfl infoSt6) rfl ?_
      refine ⟨b2, cap2, rfl, ?_, ((X.out.trans XE.out).setCell (p := ⟨g + 1 + 1, _, none⟩) hgw _).setCell (p := ⟨g + 1 + 1, _, none⟩) hgw _⟩
      exact ((MM.out.mono X.out.size).far (p := ⟨g + 1 + 1, 0, none⟩) BR1.out (by decide) _).far (p := ⟨g + 1 + 1, 1, none⟩) (BR1.out.set_ _ _) (by decide) _
end Go.Proofs.Yteiknefajlocoaa
