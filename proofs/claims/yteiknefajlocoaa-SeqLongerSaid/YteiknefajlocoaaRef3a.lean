/- Walks of the reference's runs: Put, Index, Base, Registers. -/
import Derived.Test.YteiknefajlocoaaForm4
import Derived.Test.YteiknefajlocoaaRunM
import Derived.Test.YteiknefajlocoaaRef1b
import Derived.Test.YteiknefajlocoaaUpd
namespace Go.Proofs.Yteiknefajlocoaa
open Go.ChangeShapes Go.WideShapes Go.ChangeAt Go.RowKit
set_option linter.unusedVariables false
set_option linter.unusedSimpArgs false

def insV (i : LIns) : Value := .agg #[.int .i64 i.op, .int .i64 i.a, .int .i64 i.b, .int .i64 i.c, .int .i64 i.n]
def putV (op : Int) : Int := if op = 3 ∨ op = 5 then 0 else if op = 4 ∨ op = 6 then 1 else -1
theorem index_i64 {oa : Option Addr} {n b o cap : Nat} (h : 0 < n → oa = some ⟨b, o, none⟩) (W : World) (i : Int) (h0 : 0 ≤ i) (h1 : i < n) :
    (Instr.indexAt 71 (.slice oa n cap) (.int .i64 i)).run Try.prog W = .ok (.pointer (some ⟨b, o + i.toNat, none⟩)) W := by
  obtain rfl := h (by omega)
  have hs : (Try.prog.info? 71).isSome = true := by kernel_rfl
  have hs : (Try.prog.info? 2).map (·.size) = some 1 := by kernel_rfl
  simp [Instr.indexAt, run_underlying Try.underlying71, asIntOf, h0, h1]
  exact addr_add b o _
theorem index_row (W : World) (k n cap : Nat) (i : Int) (h0 : 0 ≤ i) (h1 : i < n) :
    (Instr.indexAt 71 (.slice (some ⟨k, 0, none⟩) n cap) (.int .i64 i)).run Try.prog W = .ok (.pointer (some ⟨k, i.toNat, none⟩)) W := by
  have := index_i64 (oa := some ⟨k, 0, none⟩) (n := n) (b := k) (o := 0) (cap := cap) (fun _ => rfl) W i h0 h1
  simpa using this
theorem infoSee : (Try.prog.info? 98).map (fun i => (i.zero, i.size, i.bytes)) = some (some (.agg #[.int .i64 0, .int .i64 0, .int .i64 0]), 3, 24) := by kernel_rfl
theorem infoI64 : (Try.prog.info? 2).map (fun i => (i.zero, i.size, i.bytes)) = some (some (.int .i64 0), 1, 8) := by kernel_rfl

theorem rPut3_c (i : LIns) (w : World) :
    Calls Try.prog 63 #[insV i] w fun e w' => e = .returned (.int .i64 (putV i.op)) ∧ Ext w w' := by
  obtain ⟨op, a, b, c, n⟩ := i
  unfold insV
  simp only
  by_cases h3 : op = 3
  · subst h3
    go_enter Try.func63, Try.ntmps63
    go_wp2
    go_ret
    exact ⟨ret_i (by decide), (Ext.refl _).alloc _⟩
  by_cases h5 : op = 5
  · subst h5
    go_enter Try.func63, Try.ntmps63
    go_wp2
    go_ret
    exact ⟨ret_i (by decide), (Ext.refl _).alloc _⟩
  by_cases h4 : op = 4
  · subst h4
    go_enter Try.func63, Try.ntmps63
    go_wp2
    go_ret
    exact ⟨ret_i (by decide), (Ext.refl _).alloc _⟩
  by_cases h6 : op = 6
  · subst h6
    go_enter Try.func63, Try.ntmps63
    go_wp2
    go_ret
    exact ⟨ret_i (by decide), (Ext.refl _).alloc _⟩
  have Hv : Hid (putV op = -1) := Lib.hid (by unfold putV; rw [if_neg (by omega), if_neg (by omega)])
  have b3 : (op == 3) = false := by simpa using h3
  have b5 : (op == 5) = false := by simpa using h5
  have b4 : (op == 4) = false := by simpa using h4
  have b6 : (op == 6) = false := by simpa using h6
  clear h3 h5 h4 h6
  go_enter Try.func63, Try.ntmps63
  go_wp2
  go_ret
  exact ⟨ret_i Hv.out.symm, (Ext.refl _).alloc _⟩

theorem rIndex_c (k : Nat) (l : List Int) (E : TypeId) (i : LIns) (hl : l.length = 10) (hb : okIn 10 i.b = true) (w : World) (h : Blk w k E (regV l)) :
    Calls Try.prog 65 #[.slice (some ⟨k, 0, none⟩) 10 10, insV i] w fun e w' => e = .returned (.int .i64 (idxOf l i)) ∧ Ext w w' := by
  obtain ⟨rb, -⟩ := reg_cell h hl hb
  obtain ⟨op, a, b, c, n⟩ := i
  simp only at hb rb
  obtain ⟨b0, b1⟩ := okIn_iff.1 hb
  have hkl := h.lt
  unfold insV
  simp only
  clear h
  by_cases h5 : op = 5
  · subst h5
    go_enter Try.func65, Try.ntmps65
    go_wp2
    go_ret
    exact ⟨ret_i (by simp [idxOf]), (Ext.refl _).alloc _⟩
  by_cases h6 : op = 6
  · subst h6
    go_enter Try.func65, Try.ntmps65
    go_wp2
    go_ret
    exact ⟨ret_i (by simp [idxOf]), (Ext.refl _).alloc _⟩
  have Hv : Hid (idxOf l ⟨op, a, b, c, n⟩ = wrap64 (rg l b + n)) := Lib.hid (by unfold idxOf; rw [if_neg (by simp only; omega)])
  have e5 : (op == 5) = false := by simpa using h5
  have e6 : (op == 6) = false := by simpa using h6
  have hix := index_row
  clear h5 h6
  go_enter Try.func65, Try.ntmps65
  go_upto_region 3 with fail
  obtain ⟨w0, e, he, hW, hs0, hx0, c0, c1, c2, c3, c4⟩ := new5 w 70 (.int .i64 op) (.int .i64 a) (.int .i64 b) (.int .i64 c) (.int .i64 n)
  rw [hW, he]
  have k0 : ∀ W, Ext w0 W → W.cell? ⟨e, 2, none⟩ = some (.int .i64 b) := fun _ h => h.kept c2
  have k1 : ∀ W, Ext w0 W → W.cell? ⟨e, 4, none⟩ = some (.int .i64 n) := fun _ h => h.kept c4
  have k2 : ∀ W, Ext w0 W → W.cell? ⟨k, b.toNat, none⟩ = some (.int .i64 (rg l b)) := fun _ h => h.kept (hx0.kept rb)
  have X := Lib.hid hx0
  clear hW he hs0 hx0 c0 c1 c2 c3 c4 rb
  refine region_calm 9 (by kernel_rfl) (by kernel_rfl) ?_
  simp only [List.take_succ_cons, List.take_zero, List.drop_succ_cons, List.drop_zero]
  repeat (first | (refine calm_fresh ?_ ?_ (fun wc hE => ?_) ?_; (decide); rfl; (focus (go_simp; done)); go_simp) | (refine calm_value ?_ ?_ ?_; (decide); (first | rfl | (focus (go_simp; done))); apply Exists.intro; refine ⟨fun wc hE => ?_, ?_⟩; (go_simp; exact rfl); go_simp) | (refine calm_call ?_ ?_ ?_; (decide); (first | rfl | (focus (go_simp; done))); apply Exists.intro; refine ⟨fun wc hE => ?_, ?_⟩; (go_simp; (first | fail)); go_simp) | (refine calm_skip ?_ ?_ ?_; (decide); (focus (go_simp; done)); go_simp))
  refine calm_nil ?_
  intro wx hx
  have X := Lib.hid (X.out.trans hx)
  clear hx k0 k1 k2
  go_wp2
  go_ret
  exact ⟨ret_i (by rw [Hv.out, IntKind.wrap_i64]; unfold wrap64; rfl), X.out⟩

set_option maxHeartbeats 1000000 in
theorem rBase_c (p : LProg) (c : Int) (v : Value) (w : World) (hp : ProgAt w v p) (hr : regsOk p.regs = true) (h0 : 0 ≤ c) (h1 : c.toNat < p.regs.length) :
    Calls Try.prog 66 #[v, .int .i64 c] w fun e w' => e = .returned (.int .i64 (baseOf p c.toNat : Nat)) ∧ Ext w w' := by
  obtain ⟨v1, v2, rfl, ⟨hb, oa, cap, b, o, rfl, hc1, hc2, hrow⟩, ⟨-, ob, capb, b2, o2, rfl, -⟩⟩ := hp
  have hlen := regsOk_len hr
  have Hlog := Lib.hid (regsOk_log hr)
  have hix := index_regs (cap := cap) hrow.at_
  have Hrow := Lib.hid hrow
  have Htot := Lib.hid (total_le hr)
  have Hr := Lib.hid hr
  clear hrow hc1 hc2 hb hr
  obtain ⟨m, rfl⟩ : ∃ m : Nat, c = (m : Int) := ⟨c.toNat, by omega⟩
  simp only [Int.toNat_natCast] at *
  go_enter Try.func66, Try.ntmps66
  go_wp2_with fail
  obtain ⟨W, g, hg, hW, hx, bA⟩ := block1 w #[.slice oa p.regs.length cap, .slice ob p.code.length capb] 25
  rw [hW, hg]
  have X := Lib.hid hx
  clear hW hg hx
  go_loopw [5, 6] (fun n i wr => ∃ j : Nat, j ≤ m ∧ i = .int .i64 j ∧ n = .int .i64 (baseOf p j : Nat) ∧ Ext W wr) (fun _ i _ => m - (intOf i).toNat)
  case atStart => exact ⟨0, by omega, rfl, by rw [base_zero]; rfl, Ext.refl _⟩
  case round =>
    obtain ⟨j, hj, rfl, rfl, hE⟩ := hrel
    have bA := bA.ext hE
    have XE := Lib.hid hE
    have X := Lib.hid (X.out.trans hE)
    clear hE
    by_cases hlt : j < m
    · have hjr : j < p.regs.length := by omega
      obtain ⟨e0, e1⟩ := (Hrow.out.ext X.out).reg j hjr
      have Hlg := Lib.hid (Hlog.out _ (getD_mem hjr))
      have Hbs := Lib.hid (base_succ p hjr)
      have hbt := base_le p j
      have hbt2 := base_le p (j + 1)
      have htt := Htot.out
      generalize p.regs.getD j default = r at *
      have hw6 : wordsOf r ≤ 64 := words_le r Hlg.out.2
      have a0 : wr.cell? ⟨g, 0, none⟩ = some (.slice oa p.regs.length cap) := by rw [bA.cell]; rfl
      go_wp2_with fail
      (with_reducible refine (rWords_c r Hlg.out.1 Hlg.out.2 wr).mono ?_)
      rintro e w2 ⟨rfl, hx⟩
      have XE := Lib.hid (XE.out.trans hx)
      clear hx a0 e0 e1
      go_wp2
      go_roundw
      case rel => exact ⟨j + 1, by omega, by go_num, by rw [Hbs.out]; go_num, XE.out⟩
      case measure => first | (simp [intOf]; done) | (simp [intOf]; omega)
    · have hje : j = m := by omega
      subst hje
      have hlt2 : decide ((j : Int) < (j : Int)) = false := by simp
      go_wp2
      go_ret
      exact ⟨rfl, X.out⟩

def RegsPost (k : Nat) (E : TypeId) (l : List Int) (i : LIns) (w : World) (e : Ending) (w' : World) : Prop :=
  ∃ ao cap, e = .returned (.slice ao (plainS l i).length cap) ∧ Src w' 3 ao (plainS l i).length ((plainS l i).flatMap seeCells) ∧ w.grownBy w' (some k) ∧ Blk w' k E (regV (plainR l i))
theorem regs_post {k : Nat} {E : TypeId} {l l' : List Int} {i : LIns} {w w1 w2 : World} (hs : plainS l i = []) (hr : plainR l i = l') (hg : w.grownBy w1 (some k)) (hx : Ext w1 w2) (hb : Blk w1 k E (regV l')) : RegsPost k E l i w (.returned (.slice none 0 0)) w2 := by
  refine ⟨none, 0, by rw [hs]; rfl, by rw [hs]; exact src_none _ _, grown_trans hg (ext_grown hx _), by rw [hr]; exact hb.ext hx⟩
theorem regs_put {k : Nat} {E : TypeId} {l : List Int} {w w1 : World} {a v : Int} (hb : Blk w1 k E (regV l)) (hx : Ext w w1) : w.grownBy (w1.setCell ⟨k, a.toNat, none⟩ (.int .i64 v)) (some k) ∧ Blk (w1.setCell ⟨k, a.toNat, none⟩ (.int .i64 v)) k E (regV (rset l a v)) :=
  ⟨grown_trans (ext_grown hx _) (set_grown _ _ _), by rw [← regV_set]; exact hb.set_ _ _⟩
theorem plainS_nil {l : List Int} {i : LIns} (h : ¬ (i.op = 29 ∨ i.op = 30)) : plainS l i = [] := by unfold plainS; rw [if_neg h]

set_option maxRecDepth 100000 in
set_option maxHeartbeats 2000000 in
theorem regs_set (k : Nat) (E : TypeId) (l : List Int) (a b c n : Int) (hl : l.length = 10) (h64 : All64 l) (ha : okIn 10 a = true) (w : World) (h : Blk w k E (regV l)) :
    Calls Try.prog 67 #[.slice (some ⟨k, 0, none⟩) 10 10, insV ⟨1, a, b, c, n⟩] w (RegsPost k E l ⟨1, a, b, c, n⟩ w) := by
  unfold insV
  simp only
  have hkl := h.lt
  obtain ⟨ra, fa⟩ := reg_cell h hl ha
  obtain ⟨a0, a1⟩ := okIn_iff.1 ha
  have rr : w.cell? ⟨k, a.toNat, none⟩ = some (.int .i64 (rg l a)) ∧ w.frozen? ⟨k, a.toNat, none⟩ = false := ⟨ra, fa⟩
  have hix := index_row
  go_enter Try.func67, Try.ntmps67
  go_wp2
  go_ret
  obtain ⟨h1, h2⟩ := regs_put (a := a) (v := n) h (Ext.refl w)
  first | exact regs_post (plainS_nil (by simp)) rfl h1 ((Ext.refl _).alloc _) h2 | (trace_state; sorry)

set_option maxRecDepth 100000 in
set_option maxHeartbeats 2000000 in
theorem regs_move (k : Nat) (E : TypeId) (l : List Int) (a b c n : Int) (hl : l.length = 10) (h64 : All64 l) (ha : okIn 10 a = true) (hb : okIn 10 b = true) (w : World) (h : Blk w k E (regV l)) :
    Calls Try.prog 67 #[.slice (some ⟨k, 0, none⟩) 10 10, insV ⟨2, a, b, c, n⟩] w (RegsPost k E l ⟨2, a, b, c, n⟩ w) := by
  unfold insV
  simp only
  have hkl := h.lt
  obtain ⟨ra, fa⟩ := reg_cell h hl ha
  obtain ⟨a0, a1⟩ := okIn_iff.1 ha
  obtain ⟨rb, fb⟩ := reg_cell h hl hb
  obtain ⟨b0, b1⟩ := okIn_iff.1 hb
  have hix := index_row
  go_enter Try.func67, Try.ntmps67
  go_upto_region 10 with fail
  obtain ⟨w0, e, he, hW, hs0, hx0, c0, c1, c2, c3, c4⟩ := new5 w 70 (.int .i64 2) (.int .i64 a) (.int .i64 b) (.int .i64 c) (.int .i64 n)
  rw [hW, he]
  have k1 : ∀ W, Ext w0 W → W.cell? ⟨e, 1, none⟩ = some (.int .i64 a) := fun _ h => h.kept c1
  have k2 : ∀ W, Ext w0 W → W.cell? ⟨e, 2, none⟩ = some (.int .i64 b) := fun _ h => h.kept c2
  have mb : ∀ W, Ext w0 W → W.cell? ⟨k, b.toNat, none⟩ = some (.int .i64 (rg l b)) := fun _ h => h.kept (hx0.kept rb)
  have rr := kept2 hx0 ⟨ra, fa⟩
  have X := Lib.hid hx0
  clear hW he hs0 hx0 c0 c1 c2 c3 c4 ra fa rb fb
  refine region_calm 9 (by kernel_rfl) (by kernel_rfl) ?_
  simp only [List.take_succ_cons, List.take_zero, List.drop_succ_cons, List.drop_zero]
  repeat (first | (refine calm_fresh ?_ ?_ (fun wc hE => ?_) ?_; (decide); rfl; (focus (go_simp; done)); go_simp) | (refine calm_value ?_ ?_ ?_; (decide); (first | rfl | (focus (go_simp; done))); apply Exists.intro; refine ⟨fun wc hE => ?_, ?_⟩; (go_simp; exact rfl); go_simp) | (refine calm_call ?_ ?_ ?_; (decide); (first | rfl | (focus (go_simp; done))); apply Exists.intro; refine ⟨fun wc hE => ?_, ?_⟩; (go_simp; (first | fail)); go_simp) | (refine calm_skip ?_ ?_ ?_; (decide); (focus (go_simp; done)); go_simp))
  refine calm_nil ?_
  intro wx hx
  have X := Lib.hid (X.out.trans hx)
  have rr := kept2 hx rr
  clear hx k1 k2 mb
  go_wp2
  go_ret
  obtain ⟨h1, h2⟩ := regs_put (a := a) (v := rg l b) (h.ext X.out) X.out
  first | exact regs_post (plainS_nil (by simp)) rfl h1 (Ext.refl _) h2 | (trace_state; sorry)

set_option maxRecDepth 100000 in
set_option maxHeartbeats 2000000 in
theorem regs_add (k : Nat) (E : TypeId) (l : List Int) (a b c n : Int) (hl : l.length = 10) (h64 : All64 l) (ha : okIn 10 a = true) (hb : okIn 10 b = true) (w : World) (h : Blk w k E (regV l)) :
    Calls Try.prog 67 #[.slice (some ⟨k, 0, none⟩) 10 10, insV ⟨10, a, b, c, n⟩] w (RegsPost k E l ⟨10, a, b, c, n⟩ w) := by
  unfold insV
  simp only
  have hkl := h.lt
  obtain ⟨ra, fa⟩ := reg_cell h hl ha
  obtain ⟨a0, a1⟩ := okIn_iff.1 ha
  obtain ⟨rb, fb⟩ := reg_cell h hl hb
  obtain ⟨b0, b1⟩ := okIn_iff.1 hb
  have hix := index_row
  go_enter Try.func67, Try.ntmps67
  go_upto_region 12 with fail
  obtain ⟨w0, e, he, hW, hs0, hx0, c0, c1, c2, c3, c4⟩ := new5 w 70 (.int .i64 10) (.int .i64 a) (.int .i64 b) (.int .i64 c) (.int .i64 n)
  rw [hW, he]
  have k1 : ∀ W, Ext w0 W → W.cell? ⟨e, 1, none⟩ = some (.int .i64 a) := fun _ h => h.kept c1
  have k2 : ∀ W, Ext w0 W → W.cell? ⟨e, 2, none⟩ = some (.int .i64 b) := fun _ h => h.kept c2
  have k4 : ∀ W, Ext w0 W → W.cell? ⟨e, 4, none⟩ = some (.int .i64 n) := fun _ h => h.kept c4
  have mb : ∀ W, Ext w0 W → W.cell? ⟨k, b.toNat, none⟩ = some (.int .i64 (rg l b)) := fun _ h => h.kept (hx0.kept rb)
  have rr := kept2 hx0 ⟨ra, fa⟩
  have X := Lib.hid hx0
  clear hW he hs0 hx0 c0 c1 c2 c3 c4 ra fa rb fb
  refine region_calm 12 (by kernel_rfl) (by kernel_rfl) ?_
  simp only [List.take_succ_cons, List.take_zero, List.drop_succ_cons, List.drop_zero]
  repeat (first | (refine calm_fresh ?_ ?_ (fun wc hE => ?_) ?_; (decide); rfl; (focus (go_simp; done)); go_simp) | (refine calm_value ?_ ?_ ?_; (decide); (first | rfl | (focus (go_simp; done))); apply Exists.intro; refine ⟨fun wc hE => ?_, ?_⟩; (go_simp; exact rfl); go_simp) | (refine calm_call ?_ ?_ ?_; (decide); (first | rfl | (focus (go_simp; done))); apply Exists.intro; refine ⟨fun wc hE => ?_, ?_⟩; (go_simp; (first | fail)); go_simp) | (refine calm_skip ?_ ?_ ?_; (decide); (focus (go_simp; done)); go_simp))
  refine calm_nil ?_
  intro wx hx
  have X := Lib.hid (X.out.trans hx)
  have rr := kept2 hx rr
  clear hx k1 k2 k4 mb
  go_wp2
  go_ret
  obtain ⟨h1, h2⟩ := regs_put (a := a) (v := wrap64 (rg l b + n)) (h.ext X.out) X.out
  try rw [show IntKind.i64.wrap (rg l b + n) = wrap64 (rg l b + n) by rw [IntKind.wrap_i64]; unfold wrap64; rfl]
  first | exact regs_post (plainS_nil (by simp)) rfl h1 (Ext.refl _) h2 | (trace_state; sorry)

set_option maxRecDepth 100000 in
set_option maxHeartbeats 2000000 in
theorem regs_mask (k : Nat) (E : TypeId) (l : List Int) (a b c n : Int) (hl : l.length = 10) (h64 : All64 l) (ha : okIn 10 a = true) (w : World) (h : Blk w k E (regV l)) :
    Calls Try.prog 67 #[.slice (some ⟨k, 0, none⟩) 10 10, insV ⟨11, a, b, c, n⟩] w (RegsPost k E l ⟨11, a, b, c, n⟩ w) := by
  unfold insV
  simp only
  have hkl := h.lt
  obtain ⟨ra, fa⟩ := reg_cell h hl ha
  obtain ⟨a0, a1⟩ := okIn_iff.1 ha
  have hix := index_row
  have key : Hid (plainR l ⟨11, a, b, c, n⟩ = rset l a 0) → ∀ w1, Ext w w1 → Blk w1 k E (regV l) → RegsPost k E l ⟨11, a, b, c, n⟩ w (.returned (.slice none 0 0)) (w1.setCell ⟨k, a.toNat, none⟩ (.int .i64 0)) := by
    intro hr w1 hx hb
    obtain ⟨h1, h2⟩ := regs_put (a := a) (v := 0) hb hx
    exact regs_post (plainS_nil (by simp)) hr.out h1 (Ext.refl _) h2
  have Key := Lib.hid key
  clear key
  by_cases hneg : rg l a < 0
  · have Hr : Hid (plainR l ⟨11, a, b, c, n⟩ = rset l a 0) := Lib.hid (by simp [plainR, hneg])
    go_enter Try.func67, Try.ntmps67
    go_upto_region 14 with fail
    obtain ⟨w0, e, he, hW, hs0, hx0, c0, c1, c2, c3, c4⟩ := new5 w 70 (.int .i64 11) (.int .i64 a) (.int .i64 b) (.int .i64 c) (.int .i64 n)
    rw [hW, he]
    have k1 : ∀ W, Ext w0 W → W.cell? ⟨e, 1, none⟩ = some (.int .i64 a) := fun _ h => h.kept c1
    have k4 : ∀ W, Ext w0 W → W.cell? ⟨e, 4, none⟩ = some (.int .i64 n) := fun _ h => h.kept c4
    have ma : ∀ W, Ext w0 W → W.cell? ⟨k, a.toNat, none⟩ = some (.int .i64 (rg l a)) := fun _ h => h.kept (hx0.kept ra)
    have rr := kept2 hx0 ⟨ra, fa⟩
    have X := Lib.hid hx0
    clear hW he hs0 hx0 c0 c2 c3 ra fa
    refine region_calm 16 (by kernel_rfl) (by kernel_rfl) ?_
    simp only [List.take_succ_cons, List.take_zero, List.drop_succ_cons, List.drop_zero]
    repeat (first | (refine calm_fresh ?_ ?_ (fun wc hE => ?_) ?_; (decide); rfl; (focus (go_simp; done)); go_simp) | (refine calm_value ?_ ?_ ?_; (decide); (first | rfl | (focus (go_simp; done))); apply Exists.intro; refine ⟨fun wc hE => ?_, ?_⟩; (go_simp; exact rfl); go_simp) | (refine calm_call ?_ ?_ ?_; (decide); (first | rfl | (focus (go_simp; done))); apply Exists.intro; refine ⟨fun wc hE => ?_, ?_⟩; (go_simp; (first | fail)); go_simp) | (refine calm_skip ?_ ?_ ?_; (decide); (focus (go_simp; done)); go_simp))
    refine calm_nil ?_
    intro wx hx
    have X := Lib.hid (X.out.trans hx)
    have rr := kept2 hx rr
    have c1 := hx.kept c1
    clear hx c4 k1 k4 ma
    go_wp2
    go_ret
    first | exact Key.out Hr wx X.out (h.ext X.out) | (trace_state; sorry)
  by_cases hge : n ≤ rg l a
  · have Hr : Hid (plainR l ⟨11, a, b, c, n⟩ = rset l a 0) := Lib.hid (by simp [plainR, hge])
    have hn0 : decide (rg l a < 0) = false := by simpa using hneg
    clear hneg
    go_enter Try.func67, Try.ntmps67
    go_upto_region 14 with fail
    obtain ⟨w0, e, he, hW, hs0, hx0, c0, c1, c2, c3, c4⟩ := new5 w 70 (.int .i64 11) (.int .i64 a) (.int .i64 b) (.int .i64 c) (.int .i64 n)
    rw [hW, he]
    have k1 : ∀ W, Ext w0 W → W.cell? ⟨e, 1, none⟩ = some (.int .i64 a) := fun _ h => h.kept c1
    have k4 : ∀ W, Ext w0 W → W.cell? ⟨e, 4, none⟩ = some (.int .i64 n) := fun _ h => h.kept c4
    have ma : ∀ W, Ext w0 W → W.cell? ⟨k, a.toNat, none⟩ = some (.int .i64 (rg l a)) := fun _ h => h.kept (hx0.kept ra)
    have rr := kept2 hx0 ⟨ra, fa⟩
    have X := Lib.hid hx0
    clear hW he hs0 hx0 c0 c2 c3 ra fa
    refine region_calm 16 (by kernel_rfl) (by kernel_rfl) ?_
    simp only [List.take_succ_cons, List.take_zero, List.drop_succ_cons, List.drop_zero]
    repeat (first | (refine calm_fresh ?_ ?_ (fun wc hE => ?_) ?_; (decide); rfl; (focus (go_simp; done)); go_simp) | (refine calm_value ?_ ?_ ?_; (decide); (first | rfl | (focus (go_simp; done))); apply Exists.intro; refine ⟨fun wc hE => ?_, ?_⟩; (go_simp; exact rfl); go_simp) | (refine calm_call ?_ ?_ ?_; (decide); (first | rfl | (focus (go_simp; done))); apply Exists.intro; refine ⟨fun wc hE => ?_, ?_⟩; (go_simp; (first | fail)); go_simp) | (refine calm_skip ?_ ?_ ?_; (decide); (focus (go_simp; done)); go_simp))
    refine calm_nil ?_
    intro wx hx
    have X := Lib.hid (X.out.trans hx)
    have rr := kept2 hx rr
    have c1 := hx.kept c1
    clear hx c4 k1 k4 ma
    go_wp2
    go_ret
    first | exact Key.out Hr wx X.out (h.ext X.out) | (trace_state; sorry)
  · have Hr : Hid (plainR l ⟨11, a, b, c, n⟩ = l) := Lib.hid (by simp [plainR, hge, hneg])
    have hn0 : decide (rg l a < 0) = false := by simpa using hneg
    have hn1 : decide (n ≤ rg l a) = false := by simpa using hge
    clear hneg hge
    go_enter Try.func67, Try.ntmps67
    go_upto_region 14 with fail
    obtain ⟨w0, e, he, hW, hs0, hx0, c0, c1, c2, c3, c4⟩ := new5 w 70 (.int .i64 11) (.int .i64 a) (.int .i64 b) (.int .i64 c) (.int .i64 n)
    rw [hW, he]
    have k1 : ∀ W, Ext w0 W → W.cell? ⟨e, 1, none⟩ = some (.int .i64 a) := fun _ h => h.kept c1
    have k4 : ∀ W, Ext w0 W → W.cell? ⟨e, 4, none⟩ = some (.int .i64 n) := fun _ h => h.kept c4
    have ma : ∀ W, Ext w0 W → W.cell? ⟨k, a.toNat, none⟩ = some (.int .i64 (rg l a)) := fun _ h => h.kept (hx0.kept ra)
    have rr := kept2 hx0 ⟨ra, fa⟩
    have X := Lib.hid hx0
    clear hW he hs0 hx0 c0 c2 c3 ra fa
    refine region_calm 16 (by kernel_rfl) (by kernel_rfl) ?_
    simp only [List.take_succ_cons, List.take_zero, List.drop_succ_cons, List.drop_zero]
    repeat (first | (refine calm_fresh ?_ ?_ (fun wc hE => ?_) ?_; (decide); rfl; (focus (go_simp; done)); go_simp) | (refine calm_value ?_ ?_ ?_; (decide); (first | rfl | (focus (go_simp; done))); apply Exists.intro; refine ⟨fun wc hE => ?_, ?_⟩; (go_simp; exact rfl); go_simp) | (refine calm_call ?_ ?_ ?_; (decide); (first | rfl | (focus (go_simp; done))); apply Exists.intro; refine ⟨fun wc hE => ?_, ?_⟩; (go_simp; (first | fail)); go_simp) | (refine calm_skip ?_ ?_ ?_; (decide); (focus (go_simp; done)); go_simp))
    refine calm_nil ?_
    intro wx hx
    have X := Lib.hid (X.out.trans hx)
    have rr := kept2 hx rr
    have c1 := hx.kept c1
    clear hx c4 k1 k4 ma
    go_wp2
    go_ret
    first | exact regs_post (plainS_nil (by simp)) Hr.out (ext_grown X.out _) (Ext.refl _) (h.ext X.out) | (trace_state; sorry)

set_option maxRecDepth 100000 in
set_option maxHeartbeats 2000000 in
theorem regs_fence (k : Nat) (E : TypeId) (l : List Int) (a b c n : Int) (hl : l.length = 10) (h64 : All64 l) (hop : True) (w : World) (h : Blk w k E (regV l)) :
    Calls Try.prog 67 #[.slice (some ⟨k, 0, none⟩) 10 10, insV ⟨12, a, b, c, n⟩] w (RegsPost k E l ⟨12, a, b, c, n⟩ w) := by
  unfold insV
  simp only
  have hkl := h.lt
  have hix := index_row
  go_enter Try.func67, Try.ntmps67
  go_wp2
  go_ret
  exact regs_post (plainS_nil (by simp)) rfl (ext_grown (Ext.refl _) _) ((Ext.refl _).alloc _) h

set_option maxRecDepth 100000 in
set_option maxHeartbeats 2000000 in
theorem regs_op (k : Nat) (E : TypeId) (l : List Int) (op a b c n : Int) (hl : l.length = 10) (h64 : All64 l) (ha : okIn 10 a = true) (hb : okIn 10 b = true) (hc : okIn 10 c = true) (o1 : 21 ≤ op) (o2 : op ≤ 28) (w : World) (h : Blk w k E (regV l)) :
    Calls Try.prog 67 #[.slice (some ⟨k, 0, none⟩) 10 10, insV ⟨op, a, b, c, n⟩] w (RegsPost k E l ⟨op, a, b, c, n⟩ w) := by
  unfold insV
  simp only
  have hkl := h.lt
  obtain ⟨ra, fa⟩ := reg_cell h hl ha
  obtain ⟨a0, a1⟩ := okIn_iff.1 ha
  obtain ⟨rb, fb⟩ := reg_cell h hl hb
  obtain ⟨b0, b1⟩ := okIn_iff.1 hb
  obtain ⟨rc, fc⟩ := reg_cell h hl hc
  obtain ⟨c0, c1⟩ := okIn_iff.1 hc
  have hsub : IntKind.i64.wrap (op - 20) = op - 20 := Go.IntWalk.i64_in _ (by omega)
  have q1 : (op == (1 : Int)) = false := by simp; try omega
  have q2 : (op == (2 : Int)) = false := by simp; try omega
  have q3 : (op == (10 : Int)) = false := by simp; try omega
  have q4 : (op == (11 : Int)) = false := by simp; try omega
  have q5 : (op == (12 : Int)) = false := by simp; try omega
  have q6 : (op == (29 : Int)) = false := by simp; omega
  have q7 : (op == (30 : Int)) = false := by simp; omega
  have Hr : Hid (plainR l ⟨op, a, b, c, n⟩ = rset l a (nop (op - 20) (rg l b) (rg l c))) := Lib.hid (by
    unfold plainR
    rw [if_neg (by simp only; omega), if_neg (by simp only; omega), if_neg (by simp only; omega), if_neg (by simp only; omega), if_neg (by simp only; omega)]
    try rfl)
  have hix := index_row
  go_enter Try.func67, Try.ntmps67
  go_upto_region 4 with fail
  obtain ⟨w0, e, he, hW, hs0, hx0, c0, c1, c2, c3, c4⟩ := new5 w 70 (.int .i64 op) (.int .i64 a) (.int .i64 b) (.int .i64 c) (.int .i64 n)
  rw [hW, he]
  have k0 : ∀ W, Ext w0 W → W.cell? ⟨e, 0, none⟩ = some (.int .i64 op) := fun _ h => h.kept c0
  have k1 : ∀ W, Ext w0 W → W.cell? ⟨e, 1, none⟩ = some (.int .i64 a) := fun _ h => h.kept c1
  have k2 : ∀ W, Ext w0 W → W.cell? ⟨e, 2, none⟩ = some (.int .i64 b) := fun _ h => h.kept c2
  have k3 : ∀ W, Ext w0 W → W.cell? ⟨e, 3, none⟩ = some (.int .i64 c) := fun _ h => h.kept c3
  have mb : ∀ W, Ext w0 W → W.cell? ⟨k, b.toNat, none⟩ = some (.int .i64 (rg l b)) := fun _ h => h.kept (hx0.kept rb)
  have mc : ∀ W, Ext w0 W → W.cell? ⟨k, c.toNat, none⟩ = some (.int .i64 (rg l c)) := fun _ h => h.kept (hx0.kept rc)
  have rr := kept2 hx0 ⟨ra, fa⟩
  have X := Lib.hid hx0
  have C0 : w0.cell? ⟨e, 0, none⟩ = some (.int .i64 op) := c0
  obtain ⟨vb0, vb1⟩ := rg64 h64 b
  obtain ⟨vc0, vc1⟩ := rg64 h64 c
  have hke : k ≠ e := by omega
  clear hW hs0 hx0 c0 c1 c2 c3 c4 ra fa rb fb rc fc
  refine region_calm 10 (by kernel_rfl) (by kernel_rfl) ?_
  simp only [List.take_succ_cons, List.take_zero, List.drop_succ_cons, List.drop_zero]
  repeat (first | (refine calm_fresh ?_ ?_ (fun wc hE => ?_) ?_; (decide); rfl; (focus (go_simp; done)); go_simp) | (refine calm_value ?_ ?_ ?_; (decide); (first | rfl | (focus (go_simp; done))); apply Exists.intro; refine ⟨fun wc hE => ?_, ?_⟩; (go_simp; exact rfl); go_simp) | (refine calm_call ?_ ?_ ?_; (decide); (first | rfl | (focus (go_simp; done))); apply Exists.intro; refine ⟨fun wc hE => ?_, ?_⟩; (go_simp; (first | (with_reducible exact calm_enter (refOp_c (op - 20) (rg l b) (rg l c) _ vb0 vb1 vc0 vc1)))); go_simp) | (refine calm_skip ?_ ?_ ?_; (decide); (focus (go_simp; done)); go_simp))
  refine calm_nil ?_
  intro wx hx
  have X := Lib.hid (X.out.trans hx)
  have rr := kept2 hx rr
  have C0 := hx.kept C0
  clear hx k0 k1 k2 k3 mb mc hsub
  go_wp2
  go_ret
  obtain ⟨h1, h2⟩ := regs_put (a := a) (v := nop (op - 20) (rg l b) (rg l c)) (h.ext X.out) X.out
  first | exact regs_post (plainS_nil (by simp only; omega)) Hr.out h1 (Ext.refl _) h2 | (trace_state; sorry)

set_option maxRecDepth 100000 in
set_option maxHeartbeats 2000000 in
theorem regs_op29 (k : Nat) (E : TypeId) (l : List Int) (a b c n : Int) (hl : l.length = 10) (h64 : All64 l) (ha : okIn 10 a = true) (hb : okIn 10 b = true) (hc : okIn 10 c = true) (w : World) (h : Blk w k E (regV l)) :
    Calls Try.prog 67 #[.slice (some ⟨k, 0, none⟩) 10 10, insV ⟨29, a, b, c, n⟩] w (RegsPost k E l ⟨29, a, b, c, n⟩ w) := by
  unfold insV
  simp only
  have hkl := h.lt
  obtain ⟨ra, fa⟩ := reg_cell h hl ha
  obtain ⟨a0, a1⟩ := okIn_iff.1 ha
  obtain ⟨rb, fb⟩ := reg_cell h hl hb
  obtain ⟨b0, b1⟩ := okIn_iff.1 hb
  obtain ⟨rc, fc⟩ := reg_cell h hl hc
  obtain ⟨c0, c1⟩ := okIn_iff.1 hc
  have hsub : IntKind.i64.wrap (9) = 9 := Go.IntWalk.i64_in _ (by omega)
  have q1 : (29 == (1 : Int)) = false := by simp; try omega
  have q2 : (29 == (2 : Int)) = false := by simp; try omega
  have q3 : (29 == (10 : Int)) = false := by simp; try omega
  have q4 : (29 == (11 : Int)) = false := by simp; try omega
  have q5 : (29 == (12 : Int)) = false := by simp; try omega
  have Hr : Hid (plainR l ⟨29, a, b, c, n⟩ = rset l a (nop (9) (rg l b) (rg l c))) := Lib.hid (by
    unfold plainR
    rw [if_neg (by simp only; omega), if_neg (by simp only; omega), if_neg (by simp only; omega), if_neg (by simp only; omega), if_neg (by simp only; omega)]
    try rfl)
  have hix := index_row
  go_enter Try.func67, Try.ntmps67
  go_upto_region 4 with fail
  obtain ⟨w0, e, he, hW, hs0, hx0, c0, c1, c2, c3, c4⟩ := new5 w 70 (.int .i64 29) (.int .i64 a) (.int .i64 b) (.int .i64 c) (.int .i64 n)
  rw [hW, he]
  have k0 : ∀ W, Ext w0 W → W.cell? ⟨e, 0, none⟩ = some (.int .i64 29) := fun _ h => h.kept c0
  have k1 : ∀ W, Ext w0 W → W.cell? ⟨e, 1, none⟩ = some (.int .i64 a) := fun _ h => h.kept c1
  have k2 : ∀ W, Ext w0 W → W.cell? ⟨e, 2, none⟩ = some (.int .i64 b) := fun _ h => h.kept c2
  have k3 : ∀ W, Ext w0 W → W.cell? ⟨e, 3, none⟩ = some (.int .i64 c) := fun _ h => h.kept c3
  have mb : ∀ W, Ext w0 W → W.cell? ⟨k, b.toNat, none⟩ = some (.int .i64 (rg l b)) := fun _ h => h.kept (hx0.kept rb)
  have mc : ∀ W, Ext w0 W → W.cell? ⟨k, c.toNat, none⟩ = some (.int .i64 (rg l c)) := fun _ h => h.kept (hx0.kept rc)
  have rr := kept2 hx0 ⟨ra, fa⟩
  have X := Lib.hid hx0
  have C0 : w0.cell? ⟨e, 0, none⟩ = some (.int .i64 29) := c0
  obtain ⟨vb0, vb1⟩ := rg64 h64 b
  obtain ⟨vc0, vc1⟩ := rg64 h64 c
  have hke : k ≠ e := by omega
  clear hW hs0 hx0 c0 c1 c2 c3 c4 ra fa rb fb rc fc
  refine region_calm 10 (by kernel_rfl) (by kernel_rfl) ?_
  simp only [List.take_succ_cons, List.take_zero, List.drop_succ_cons, List.drop_zero]
  repeat (first | (refine calm_fresh ?_ ?_ (fun wc hE => ?_) ?_; (decide); rfl; (focus (go_simp; done)); go_simp) | (refine calm_value ?_ ?_ ?_; (decide); (first | rfl | (focus (go_simp; done))); apply Exists.intro; refine ⟨fun wc hE => ?_, ?_⟩; (go_simp; exact rfl); go_simp) | (refine calm_call ?_ ?_ ?_; (decide); (first | rfl | (focus (go_simp; done))); apply Exists.intro; refine ⟨fun wc hE => ?_, ?_⟩; (go_simp; (first | (with_reducible exact calm_enter (refOp_c (9) (rg l b) (rg l c) _ vb0 vb1 vc0 vc1)))); go_simp) | (refine calm_skip ?_ ?_ ?_; (decide); (focus (go_simp; done)); go_simp))
  refine calm_nil ?_
  intro wx hx
  have X := Lib.hid (X.out.trans hx)
  have rr := kept2 hx rr
  have C0 := hx.kept C0
  clear hx k0 k1 k2 k3 mb mc hsub
  go_wp2
  go_ret
  obtain ⟨h1, h2⟩ := regs_put (a := a) (v := nop (9) (rg l b) (rg l c)) (h.ext X.out) X.out
  have hs : plainS l ⟨29, a, b, c, n⟩ = [⟨3, rg l b, rg l c⟩] := rfl
  have hg := grown_trans h1 (ext_grown ((Ext.refl _).alloc (.cells #[.int .i64 3, .int .i64 (rg l b), .int .i64 (rg l c)] 98)) _)
  have hb := Blk.new (wx.setCell ⟨k, a.toNat, none⟩ (.int .i64 (nop 9 (rg l b) (rg l c)))) 98 #[.int .i64 3, .int .i64 (rg l b), .int .i64 (rg l c)]
  rw [setCell_size] at hb
  exact ⟨some ⟨wx.heap.size, 0, none⟩, 1, by rw [hs]; rfl, by rw [hs]; exact src_new (size := 3) hb rfl (by simp [Value.oneCell']), hg, by rw [Hr.out]; exact h2.alloc _⟩

set_option maxRecDepth 100000 in
set_option maxHeartbeats 2000000 in
theorem regs_op30 (k : Nat) (E : TypeId) (l : List Int) (a b c n : Int) (hl : l.length = 10) (h64 : All64 l) (ha : okIn 10 a = true) (hb : okIn 10 b = true) (hc : okIn 10 c = true) (w : World) (h : Blk w k E (regV l)) :
    Calls Try.prog 67 #[.slice (some ⟨k, 0, none⟩) 10 10, insV ⟨30, a, b, c, n⟩] w (RegsPost k E l ⟨30, a, b, c, n⟩ w) := by
  unfold insV
  simp only
  have hkl := h.lt
  obtain ⟨ra, fa⟩ := reg_cell h hl ha
  obtain ⟨a0, a1⟩ := okIn_iff.1 ha
  obtain ⟨rb, fb⟩ := reg_cell h hl hb
  obtain ⟨b0, b1⟩ := okIn_iff.1 hb
  obtain ⟨rc, fc⟩ := reg_cell h hl hc
  obtain ⟨c0, c1⟩ := okIn_iff.1 hc
  have hsub : IntKind.i64.wrap (10) = 10 := Go.IntWalk.i64_in _ (by omega)
  have q1 : (30 == (1 : Int)) = false := by simp; try omega
  have q2 : (30 == (2 : Int)) = false := by simp; try omega
  have q3 : (30 == (10 : Int)) = false := by simp; try omega
  have q4 : (30 == (11 : Int)) = false := by simp; try omega
  have q5 : (30 == (12 : Int)) = false := by simp; try omega
  have Hr : Hid (plainR l ⟨30, a, b, c, n⟩ = rset l a (nop (10) (rg l b) (rg l c))) := Lib.hid (by
    unfold plainR
    rw [if_neg (by simp only; omega), if_neg (by simp only; omega), if_neg (by simp only; omega), if_neg (by simp only; omega), if_neg (by simp only; omega)]
    try rfl)
  have hix := index_row
  go_enter Try.func67, Try.ntmps67
  go_upto_region 4 with fail
  obtain ⟨w0, e, he, hW, hs0, hx0, c0, c1, c2, c3, c4⟩ := new5 w 70 (.int .i64 30) (.int .i64 a) (.int .i64 b) (.int .i64 c) (.int .i64 n)
  rw [hW, he]
  have k0 : ∀ W, Ext w0 W → W.cell? ⟨e, 0, none⟩ = some (.int .i64 30) := fun _ h => h.kept c0
  have k1 : ∀ W, Ext w0 W → W.cell? ⟨e, 1, none⟩ = some (.int .i64 a) := fun _ h => h.kept c1
  have k2 : ∀ W, Ext w0 W → W.cell? ⟨e, 2, none⟩ = some (.int .i64 b) := fun _ h => h.kept c2
  have k3 : ∀ W, Ext w0 W → W.cell? ⟨e, 3, none⟩ = some (.int .i64 c) := fun _ h => h.kept c3
  have mb : ∀ W, Ext w0 W → W.cell? ⟨k, b.toNat, none⟩ = some (.int .i64 (rg l b)) := fun _ h => h.kept (hx0.kept rb)
  have mc : ∀ W, Ext w0 W → W.cell? ⟨k, c.toNat, none⟩ = some (.int .i64 (rg l c)) := fun _ h => h.kept (hx0.kept rc)
  have rr := kept2 hx0 ⟨ra, fa⟩
  have X := Lib.hid hx0
  have C0 : w0.cell? ⟨e, 0, none⟩ = some (.int .i64 30) := c0
  obtain ⟨vb0, vb1⟩ := rg64 h64 b
  obtain ⟨vc0, vc1⟩ := rg64 h64 c
  have hke : k ≠ e := by omega
  clear hW hs0 hx0 c0 c1 c2 c3 c4 ra fa rb fb rc fc
  refine region_calm 10 (by kernel_rfl) (by kernel_rfl) ?_
  simp only [List.take_succ_cons, List.take_zero, List.drop_succ_cons, List.drop_zero]
  repeat (first | (refine calm_fresh ?_ ?_ (fun wc hE => ?_) ?_; (decide); rfl; (focus (go_simp; done)); go_simp) | (refine calm_value ?_ ?_ ?_; (decide); (first | rfl | (focus (go_simp; done))); apply Exists.intro; refine ⟨fun wc hE => ?_, ?_⟩; (go_simp; exact rfl); go_simp) | (refine calm_call ?_ ?_ ?_; (decide); (first | rfl | (focus (go_simp; done))); apply Exists.intro; refine ⟨fun wc hE => ?_, ?_⟩; (go_simp; (first | (with_reducible exact calm_enter (refOp_c (10) (rg l b) (rg l c) _ vb0 vb1 vc0 vc1)))); go_simp) | (refine calm_skip ?_ ?_ ?_; (decide); (focus (go_simp; done)); go_simp))
  refine calm_nil ?_
  intro wx hx
  have X := Lib.hid (X.out.trans hx)
  have rr := kept2 hx rr
  have C0 := hx.kept C0
  clear hx k0 k1 k2 k3 mb mc hsub
  go_wp2
  go_ret
  obtain ⟨h1, h2⟩ := regs_put (a := a) (v := nop (10) (rg l b) (rg l c)) (h.ext X.out) X.out
  have hs : plainS l ⟨30, a, b, c, n⟩ = [⟨3, rg l b, rg l c⟩] := rfl
  have hg := grown_trans h1 (ext_grown ((Ext.refl _).alloc (.cells #[.int .i64 3, .int .i64 (rg l b), .int .i64 (rg l c)] 98)) _)
  have hb := Blk.new (wx.setCell ⟨k, a.toNat, none⟩ (.int .i64 (nop 10 (rg l b) (rg l c)))) 98 #[.int .i64 3, .int .i64 (rg l b), .int .i64 (rg l c)]
  rw [setCell_size] at hb
  exact ⟨some ⟨wx.heap.size, 0, none⟩, 1, by rw [hs]; rfl, by rw [hs]; exact src_new (size := 3) hb rfl (by simp [Value.oneCell']), hg, by rw [Hr.out]; exact h2.alloc _⟩

theorem rRegs_c (k : Nat) (E : TypeId) (l : List Int) (p : LProg) (i : LIns) (hl : l.length = 10) (h64 : All64 l) (hi : insOk p 10 i = true) (h3 : i.op ≠ 3 ∧ i.op ≠ 4 ∧ i.op ≠ 5 ∧ i.op ≠ 6 ∧ i.op ≠ 7 ∧ i.op ≠ 8 ∧ i.op ≠ 9) (w : World) (h : Blk w k E (regV l)) :
    Calls Try.prog 67 #[.slice (some ⟨k, 0, none⟩) 10 10, insV i] w (RegsPost k E l i w) := by
  obtain ⟨g1, g2, g10, g3, g5, g8, g9, g11, go, g7, gop⟩ := ins_regs hi
  obtain ⟨op, a, b, c, n⟩ := i
  simp only at h3
  by_cases e1 : op = 1
  · subst e1; exact regs_set k E l a b c n hl h64 (g1 rfl) w h
  by_cases e2 : op = 2
  · subst e2; exact regs_move k E l a b c n hl h64 (g2 rfl).1 (g2 rfl).2 w h
  by_cases e10 : op = 10
  · subst e10; exact regs_add k E l a b c n hl h64 (g10 rfl).1 (g10 rfl).2 w h
  by_cases e11 : op = 11
  · subst e11; exact regs_mask k E l a b c n hl h64 (g11 rfl).1 w h
  by_cases e12 : op = 12
  · subst e12; exact regs_fence k E l a b c n hl h64 trivial w h
  obtain ⟨p1, p2, p3, p4, p5⟩ := go e1 e2 e10 h3.1 h3.2.1 h3.2.2.1 h3.2.2.2.1 h3.2.2.2.2.1 h3.2.2.2.2.2.1 h3.2.2.2.2.2.2 e11 e12
  simp only at p4 p5
  by_cases e29 : op = 29
  · subst e29; exact regs_op29 k E l a b c n hl h64 p1 p2 p3 w h
  by_cases e30 : op = 30
  · subst e30; exact regs_op30 k E l a b c n hl h64 p1 p2 p3 w h
  exact regs_op k E l op a b c n hl h64 p1 p2 p3 p4 (by omega) w h

end Go.Proofs.Yteiknefajlocoaa
