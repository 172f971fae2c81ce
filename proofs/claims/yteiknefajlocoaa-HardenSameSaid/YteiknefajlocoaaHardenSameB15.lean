/- Laid together from: Hst, Ref3a, Ref3b, Ref3c. -/
import Derived.Test.YteiknefajlocoaaHardenSameB7
import Derived.Test.YteiknefajlocoaaHardenSameB10
import Derived.Test.YteiknefajlocoaaHardenSameB14
import Derived.Test.YteiknefajlocoaaHardenSameB12

/- A program that is being made: its box, its regions, its instructions, and where each began: of the call's own. -/
namespace Go.Proofs.Yteiknefajlocoaa
open Go.ChangeShapes Go.WideShapes Go.ChangeAt Go.RowKit
set_option linter.unusedVariables false
set_option linter.unusedSimpArgs false

theorem infoReg6 : (Try.prog.info? 68).map (fun i => (i.zero, i.size, i.bytes)) = some (some (.agg #[.int .i64 0, .bool false]), 2, 16) := by kernel_rfl
theorem infoIns6 : (Try.prog.info? 70).map (fun i => (i.zero, i.size, i.bytes)) = some (some (.agg #[.int .i64 0, .int .i64 0, .int .i64 0, .int .i64 0, .int .i64 0]), 5, 40) := by kernel_rfl
theorem infoProg6 : (Try.prog.info? 25).map (·.size) = some 2 := by kernel_rfl
theorem src_many {w : World} {k size m : Nat} {T : TypeId} {cs : Array Value} (h : Blk w k T cs) (hs : cs.size = m * size) (h1 : cs.all (·.oneCell') = true) : Src w size (some ⟨k, 0, none⟩) m cs.toList := by
  refine ⟨by simpa using hs, (fun e => by cases e), fun ad ha j u hu => ?_, fun u hu => ?_⟩
  · obtain rfl := Option.some.inj ha
    rw [show (⟨k, 0, none⟩ : Addr).add j = ⟨k, 0 + j, none⟩ from addr_add k 0 j, Nat.zero_add, h.cell]
    simpa using hu
  · rw [Array.all_eq_true'] at h1
    exact h1 u (by simpa using hu)
theorem insN_set : ∀ (l : List LIns) (k : Nat) (x : Int), k < l.length → (l.flatMap insCells).set (k * 5 + 4) (.int .i64 x) = (l.set k { l.getD k default with n := x }).flatMap insCells
  | [], k, x, h => by simp at h
  | i :: l, 0, x, h => by simp [insCells]
  | i :: l, k + 1, x, h => by
    have := insN_set l k x (by simpa using h)
    rw [List.flatMap_cons, show (k + 1) * 5 + 4 = k * 5 + 4 + 5 by omega, List.set_cons_succ, List.flatMap_cons, List.getD_cons_succ, ← this]
    simp [insCells]
theorem own_setN {w : World} {B kc cap n : Nat} {l : List LIns} (h : w.ownsRow B 70 5 (.slice (some ⟨kc, 0, none⟩) n cap) l.length (l.flatMap insCells)) {k : Nat} (hk : k < l.length) (x : Int) :
    (w.setCell ⟨kc, k * 5 + 4, none⟩ (.int .i64 x)).ownsRow B 70 5 (.slice (some ⟨kc, 0, none⟩) n cap) (l.set k { l.getD k default with n := x }).length ((l.set k { l.getD k default with n := x }).flatMap insCells) := by
  obtain ⟨h0, ⟨-, h1⟩ | ⟨g, cap', cur, hv, h1, h2, h3, h4, h5, h6⟩⟩ := h
  · omega
  simp only [Value.slice.injEq, Option.some.injEq, Addr.mk.injEq, and_true, true_and] at hv
  obtain ⟨rfl, rfl, rfl⟩ := hv
  have hb : Blk w kc 70 cur := h2
  have hl : (l.set k { l.getD k default with n := x }).length = l.length := by simp
  rw [hl, ← insN_set l k x hk]
  refine ⟨by simpa using h0, .inr ⟨kc, cap, cur.setIfInBounds (k * 5 + 4) (.int .i64 x), rfl, h1, hb.set_ _ _, h3, h4, by simpa using h5, ?_⟩⟩
  rw [← h6, Array.toList_setIfInBounds, List.take_set]
theorem own_ins_at {w : World} {B : Nat} {v : Value} {n : Nat} {l : List LIns} (h : w.ownsRow B 70 5 v n (l.flatMap insCells)) (hn : n = l.length) (h0 : 0 < n) : ∃ k cap, v = .slice (some ⟨k, 0, none⟩) n cap ∧ B ≤ k ∧ n ≤ cap ∧ cap ≤ maxLen ∧
    ∀ j, j < l.length → (w.cell? ⟨k, j * 5, none⟩ = some (.int .i64 (l.getD j default).op) ∧ w.frozen? ⟨k, j * 5, none⟩ = false) ∧ (w.cell? ⟨k, j * 5 + 4, none⟩ = some (.int .i64 (l.getD j default).n) ∧ w.frozen? ⟨k, j * 5 + 4, none⟩ = false) := by
  subst hn
  obtain ⟨hl, ⟨-, h1⟩ | ⟨g, cap', cur, rfl, h1, h2, h3, h4, h5, h6⟩⟩ := h
  · omega
  have hb : Blk w g 70 cur := h2
  refine ⟨g, cap', rfl, h1, h3, h4, fun j hj => ?_⟩
  have key : ∀ c, c < 5 → cur[j * 5 + c]? = (insCells (l.getD j default))[c]? := fun c hc => by
    rw [← flat_cell insCells 5 (fun _ => rfl) l j c hj hc, ← h6, List.getElem?_take_of_lt (by omega)]
    simp
  refine ⟨⟨?_, hb.frozen _⟩, ⟨?_, hb.frozen _⟩⟩
  · rw [hb.cell]
    have := key 0 (by omega)
    simpa [insCells] using this
  · rw [hb.cell]
    have := key 4 (by omega)
    simpa [insCells] using this
structure HSt (w0 wr : World) (B go : Nat) (vR vC vP : Value) (regs : List LReg) (code : List LIns) (places : List Int) : Prop where
  box : Blk wr go 25 #[vR, vC]
  rg : wr.ownsRow B 68 2 vR regs.length (regs.flatMap regCells)
  cd : wr.ownsRow B 70 5 vC code.length (code.flatMap insCells)
  pl : wr.ownsRow B 3 1 vP places.length (places.map (Value.int .i64))
  ext : Ext w0 wr
  hg : B ≤ go
  hB : w0.heap.size ≤ B
section
variable {w0 wr w' : World} {B go : Nat} {vR vC vP : Value} {regs : List LReg} {code : List LIns} {places : List Int}
theorem HSt.size (h : HSt w0 wr B go vR vC vP regs code places) : B ≤ wr.heap.size := by have := h.box.lt; have := h.hg; omega
theorem HSt.extend (h : HSt w0 wr B go vR vC vP regs code places) (hx : Ext wr w') : HSt w0 w' B go vR vC vP regs code places :=
  ⟨h.box.ext hx, own_ext h.rg hx, own_ext h.cd hx, own_ext h.pl hx, h.ext.trans hx, h.hg, h.hB⟩
theorem HSt.cells (h : HSt w0 wr B go vR vC vP regs code places) : (wr.cell? ⟨go, 0, none⟩ = some vR ∧ wr.frozen? ⟨go, 0, none⟩ = false) ∧ (wr.cell? ⟨go, 1, none⟩ = some vC ∧ wr.frozen? ⟨go, 1, none⟩ = false) :=
  ⟨⟨by rw [h.box.cell]; rfl, h.box.frozen _⟩, ⟨by rw [h.box.cell]; rfl, h.box.frozen _⟩⟩
/-- a place more -/
theorem HSt.place (h : HSt w0 wr B go vR vC vP regs code places) {vP' : Value} {ps : List Int} (hg : wr.grownBy w' vP.ownBlock) (ho : w'.ownsRow B 3 1 vP' ps.length (ps.map (Value.int .i64))) : HSt w0 w' B go vR vC vP' regs code ps :=
  ⟨h.box.grown hg (own_ne h.pl h.box (by decide)), own_grown h.rg hg (fun k hk he => own_ne2 h.pl h.rg (by decide) k hk he), own_grown h.cd hg (fun k hk he => own_ne2 h.pl h.cd (by decide) k hk he), ho,
    grown_below h.ext hg h.ext.size (fun k hk => Nat.le_trans h.hB (own_base h.pl k hk)), h.hg, h.hB⟩
/-- instructions more: behind the append, and its store -/
theorem HSt.code_ (h : HSt w0 wr B go vR vC vP regs code places) {vC' : Value} {cs : List LIns} (hg : wr.grownBy w' vC.ownBlock) (ho : w'.ownsRow B 70 5 vC' cs.length (cs.flatMap insCells)) : HSt w0 (w'.setCell ⟨go, 1, none⟩ vC') B go vR vC' vP regs cs places := by
  have hb := h.box.grown hg (own_ne h.cd h.box (by decide))
  have hr := own_grown h.rg hg (fun k hk he => own_ne2 h.cd h.rg (by decide) k hk he)
  have hp := own_grown h.pl hg (fun k hk he => own_ne2 h.cd h.pl (by decide) k hk he)
  exact ⟨hb.set_ 1 vC', own_far hr (own_ne hr hb (by decide)) _, own_far ho (own_ne ho hb (by decide)) _, own_far hp (own_ne hp hb (by decide)) _,
    (grown_below h.ext hg h.ext.size (fun k hk => Nat.le_trans h.hB (own_base h.cd k hk))).setCell (p := ⟨go, 1, none⟩) (Nat.le_trans h.hB h.hg) _, h.hg, h.hB⟩
/-- a number turned -/
theorem HSt.setN {kc cap n : Nat} (h : HSt w0 wr B go vR (.slice (some ⟨kc, 0, none⟩) n cap) vP regs code places) {k : Nat} (hk : k < code.length) (x : Int) :
    HSt w0 (wr.setCell ⟨kc, k * 5 + 4, none⟩ (.int .i64 x)) B go vR (.slice (some ⟨kc, 0, none⟩) n cap) vP regs (code.set k { code.getD k default with n := x }) places := by
  have hkB := own_base h.cd kc rfl
  have hr : some kc ≠ vR.ownBlock := fun e => own_ne2 h.rg h.cd (by decide) kc e.symm rfl
  have hp : some kc ≠ vP.ownBlock := fun e => own_ne2 h.pl h.cd (by decide) kc e.symm rfl
  have hgk : go ≠ kc := fun e => own_ne h.cd h.box (by decide) (by rw [e]; rfl)
  exact ⟨h.box.far (p := ⟨kc, k * 5 + 4, none⟩) hgk _, own_far h.rg hr _, own_setN h.cd hk x, own_far h.pl hp _, h.ext.setCell (p := ⟨kc, k * 5 + 4, none⟩) (Nat.le_trans h.hB hkB) _, h.hg, h.hB⟩
theorem HSt.prog (h : HSt w0 wr B go vR vC vP regs code places) (hr : ∀ r ∈ regs, R64 r.log) (hc : ∀ i ∈ code, i.fits) : ProgAt wr (.agg #[vR, vC]) ⟨regs, code⟩ :=
  ⟨_, _, rfl, regs_own h.rg hr, code_own h.cd hc⟩
end
/-! the making of a hardened program, step by step -/
def relK (f : Nat → Nat) (l : List LIns) (k : Nat) : List LIns := (l.take k).map (reloc f) ++ l.drop k
theorem relK_zero (f : Nat → Nat) (l : List LIns) : relK f l 0 = l := by simp [relK]
theorem relK_all (f : Nat → Nat) (l : List LIns) : relK f l l.length = l.map (reloc f) := by simp [relK]
theorem relK_len (f : Nat → Nat) (l : List LIns) (k : Nat) : (relK f l k).length = l.length := by
  simp only [relK, List.length_append, List.length_map, List.length_take, List.length_drop]
  omega
theorem relK_get (f : Nat → Nat) (l : List LIns) {k : Nat} (hk : k < l.length) : (relK f l k).getD k default = l.getD k default := by
  unfold relK
  rw [List.getD_eq_getElem?_getD, List.getElem?_append_right (by simp; omega)]
  simp [Nat.min_eq_left (Nat.le_of_lt hk), hk]
theorem relK_succ (f : Nat → Nat) (l : List LIns) {k : Nat} (hk : k < l.length) : relK f l (k + 1) = (relK f l k).set k (reloc f (l.getD k default)) := by
  have e : l.drop k = l.getD k default :: l.drop (k + 1) := by
    rw [List.drop_eq_getElem_cons hk]
    simp [hk]
  have hlen : ((l.take k).map (reloc f)).length = k := by simp; omega
  have h1 : l[k] = l.getD k default := by simp [hk]
  unfold relK
  rw [List.take_succ_eq_append_getElem hk, e, List.set_append_right _ _ (by omega), hlen, Nat.sub_self, List.set_cons_zero, List.map_append, List.append_assoc, h1]
  rfl
theorem relK_same (f : Nat → Nat) (l : List LIns) {k : Nat} (hk : k < l.length) (h : ¬ ((l.getD k default).op = 7 ∨ (l.getD k default).op = 8)) : relK f l (k + 1) = relK f l k := by
  rw [relK_succ f l hk, reloc_other h]
  apply List.ext_getElem (by simp)
  intro j h1 h2
  rw [List.getElem_set]
  split
  · rename_i e
    subst e
    have := relK_get f l hk
    rw [List.getD_eq_getElem?_getD, List.getElem?_eq_getElem h2] at this
    exact this.symm
  · rfl
end Go.Proofs.Yteiknefajlocoaa
/- Walks of the reference's runs: Put, Index, Base, Registers. -/
namespace Go.Proofs.Yteiknefajlocoaa
open Go.ChangeShapes Go.WideShapes Go.ChangeAt Go.RowKit
set_option linter.unusedVariables false
set_option linter.unusedSimpArgs false

def insV (i : LIns) : Value := .agg #[.int .i64 i.op, .int .i64 i.a, .int .i64 i.b, .int .i64 i.c, .int .i64 i.n]
def putV (op : Int) : Int := if op = 3 ∨ op = 5 then 0 else if op = 4 ∨ op = 6 then 1 else -1
theorem index_i64 {oa : Option Addr} {n b o cap : Nat} (h : 0 < n → oa = some ⟨b, o, none⟩) (W : World) (i : Int) (h0 : 0 ≤ i) (h1 : i < n) :
    (Instr.indexAt 71 (.slice oa n cap) (.int .i64 i)).run Try.prog W = .ok (.pointer (some ⟨b, o + i.toNat, none⟩)) W := by
  obtain rfl := h (by omega)
  have hs : (Try.prog.info? 71).isSome = true := by kernel_rfl
  have hs : (Try.prog.info? 2).map (·.size) = some 1 := by kernel_rfl
  simp [Instr.indexAt, run_underlying Try.underlying71, asIntOf, h0, h1]
  exact addr_add b o _
theorem index_row (W : World) (k n cap : Nat) (i : Int) (h0 : 0 ≤ i) (h1 : i < n) :
    (Instr.indexAt 71 (.slice (some ⟨k, 0, none⟩) n cap) (.int .i64 i)).run Try.prog W = .ok (.pointer (some ⟨k, i.toNat, none⟩)) W := by
  have := index_i64 (oa := some ⟨k, 0, none⟩) (n := n) (b := k) (o := 0) (cap := cap) (fun _ => rfl) W i h0 h1
  simpa using this
theorem infoSee : (Try.prog.info? 98).map (fun i => (i.zero, i.size, i.bytes)) = some (some (.agg #[.int .i64 0, .int .i64 0, .int .i64 0]), 3, 24) := by kernel_rfl
theorem infoI64 : (Try.prog.info? 2).map (fun i => (i.zero, i.size, i.bytes)) = some (some (.int .i64 0), 1, 8) := by kernel_rfl

theorem rPut3_c (i : LIns) (w : World) :
    Calls Try.prog 63 #[insV i] w fun e w' => e = .returned (.int .i64 (putV i.op)) ∧ Ext w w' := by
  obtain ⟨op, a, b, c, n⟩ := i
  unfold insV
  simp only
  by_cases h3 : op = 3
  · subst h3
    go_enter Try.func63, Try.ntmps63
    go_wp2
    go_ret
    exact ⟨ret_i (by decide), (Ext.refl _).alloc _⟩
  by_cases h5 : op = 5
  · subst h5
    go_enter Try.func63, Try.ntmps63
    go_wp2
    go_ret
    exact ⟨ret_i (by decide), (Ext.refl _).alloc _⟩
  by_cases h4 : op = 4
  · subst h4
    go_enter Try.func63, Try.ntmps63
    go_wp2
    go_ret
    exact ⟨ret_i (by decide), (Ext.refl _).alloc _⟩
  by_cases h6 : op = 6
  · subst h6
    go_enter Try.func63, Try.ntmps63
    go_wp2
    go_ret
    exact ⟨ret_i (by decide), (Ext.refl _).alloc _⟩
  have Hv : Hid (putV op = -1) := Lib.hid (by unfold putV; rw [if_neg (by omega), if_neg (by omega)])
  have b3 : (op == 3) = false := by simpa using h3
  have b5 : (op == 5) = false := by simpa using h5
  have b4 : (op == 4) = false := by simpa using h4
  have b6 : (op == 6) = false := by simpa using h6
  clear h3 h5 h4 h6
  go_enter Try.func63, Try.ntmps63
  go_wp2
  go_ret
  exact ⟨ret_i Hv.out.symm, (Ext.refl _).alloc _⟩

theorem rIndex_c (k : Nat) (l : List Int) (E : TypeId) (i : LIns) (hl : l.length = 10) (hb : okIn 10 i.b = true) (w : World) (h : Blk w k E (regV l)) :
    Calls Try.prog 65 #[.slice (some ⟨k, 0, none⟩) 10 10, insV i] w fun e w' => e = .returned (.int .i64 (idxOf l i)) ∧ Ext w w' := by
  obtain ⟨rb, -⟩ := reg_cell h hl hb
  obtain ⟨op, a, b, c, n⟩ := i
  simp only at hb rb
  obtain ⟨b0, b1⟩ := okIn_iff.1 hb
  have hkl := h.lt
  unfold insV
  simp only
  clear h
  by_cases h5 : op = 5
  · subst h5
    go_enter Try.func65, Try.ntmps65
    go_wp2
    go_ret
    exact ⟨ret_i (by simp [idxOf]), (Ext.refl _).alloc _⟩
  by_cases h6 : op = 6
  · subst h6
    go_enter Try.func65, Try.ntmps65
    go_wp2
    go_ret
    exact ⟨ret_i (by simp [idxOf]), (Ext.refl _).alloc _⟩
  have Hv : Hid (idxOf l ⟨op, a, b, c, n⟩ = wrap64 (rg l b + n)) := Lib.hid (by unfold idxOf; rw [if_neg (by simp only; omega)])
  have e5 : (op == 5) = false := by simpa using h5
  have e6 : (op == 6) = false := by simpa using h6
  have hix := index_row
  clear h5 h6
  go_enter Try.func65, Try.ntmps65
  go_upto_region 3 with fail
  obtain ⟨w0, e, he, hW, hs0, hx0, c0, c1, c2, c3, c4⟩ := new5 w 70 (.int .i64 op) (.int .i64 a) (.int .i64 b) (.int .i64 c) (.int .i64 n)
  rw [hW, he]
  have k0 : ∀ W, Ext w0 W → W.cell? ⟨e, 2, none⟩ = some (.int .i64 b) := fun _ h => h.kept c2
  have k1 : ∀ W, Ext w0 W → W.cell? ⟨e, 4, none⟩ = some (.int .i64 n) := fun _ h => h.kept c4
  have k2 : ∀ W, Ext w0 W → W.cell? ⟨k, b.toNat, none⟩ = some (.int .i64 (rg l b)) := fun _ h => h.kept (hx0.kept rb)
  have X := Lib.hid hx0
  clear hW he hs0 hx0 c0 c1 c2 c3 c4 rb
  refine region_calm 9 (by kernel_rfl) (by kernel_rfl) ?_
  simp only [List.take_succ_cons, List.take_zero, List.drop_succ_cons, List.drop_zero]
  repeat (first | (refine calm_fresh ?_ ?_ (fun wc hE => ?_) ?_; (decide); rfl; (focus (go_simp; done)); go_simp) | (refine calm_value ?_ ?_ ?_; (decide); (first | rfl | (focus (go_simp; done))); apply Exists.intro; refine ⟨fun wc hE => ?_, ?_⟩; (go_simp; exact rfl); go_simp) | (refine calm_call ?_ ?_ ?_; (decide); (first | rfl | (focus (go_simp; done))); apply Exists.intro; refine ⟨fun wc hE => ?_, ?_⟩; (go_simp; (first | fail)); go_simp) | (refine calm_skip ?_ ?_ ?_; (decide); (focus (go_simp; done)); go_simp))
  refine calm_nil ?_
  intro wx hx
  have X := Lib.hid (X.out.trans hx)
  clear hx k0 k1 k2
  go_wp2
  go_ret
  exact ⟨ret_i (by rw [Hv.out, IntKind.wrap_i64]; unfold wrap64; rfl), X.out⟩

set_option maxHeartbeats 1000000 in
theorem rBase_c (p : LProg) (c : Int) (v : Value) (w : World) (hp : ProgAt w v p) (hr : regsOk p.regs = true) (h0 : 0 ≤ c) (h1 : c.toNat < p.regs.length) :
    Calls Try.prog 66 #[v, .int .i64 c] w fun e w' => e = .returned (.int .i64 (baseOf p c.toNat : Nat)) ∧ Ext w w' := by
  obtain ⟨v1, v2, rfl, ⟨hb, oa, cap, b, o, rfl, hc1, hc2, hrow⟩, ⟨-, ob, capb, b2, o2, rfl, -⟩⟩ := hp
  have hlen := regsOk_len hr
  have Hlog := Lib.hid (regsOk_log hr)
  have hix := index_regs (cap := cap) hrow.at_
  have Hrow := Lib.hid hrow
  have Htot := Lib.hid (total_le hr)
  have Hr := Lib.hid hr
  clear hrow hc1 hc2 hb hr
  obtain ⟨m, rfl⟩ : ∃ m : Nat, c = (m : Int) := ⟨c.toNat, by omega⟩
  simp only [Int.toNat_natCast] at *
  go_enter Try.func66, Try.ntmps66
  go_wp2_with fail
  obtain ⟨W, g, hg, hW, hx, bA⟩ := block1 w #[.slice oa p.regs.length cap, .slice ob p.code.length capb] 25
  rw [hW, hg]
  have X := Lib.hid hx
  clear hW hg hx
  go_loopw [5, 6] (fun n i wr => ∃ j : Nat, j ≤ m ∧ i = .int .i64 j ∧ n = .int .i64 (baseOf p j : Nat) ∧ Ext W wr) (fun _ i _ => m - (intOf i).toNat)
  case atStart => exact ⟨0, by omega, rfl, by rw [base_zero]; rfl, Ext.refl _⟩
  case round =>
    obtain ⟨j, hj, rfl, rfl, hE⟩ := hrel
    have bA := bA.ext hE
    have XE := Lib.hid hE
    have X := Lib.hid (X.out.trans hE)
    clear hE
    by_cases hlt : j < m
    · have hjr : j < p.regs.length := by omega
      obtain ⟨e0, e1⟩ := (Hrow.out.ext X.out).reg j hjr
      have Hlg := Lib.hid (Hlog.out _ (getD_mem hjr))
      have Hbs := Lib.hid (base_succ p hjr)
      have hbt := base_le p j
      have hbt2 := base_le p (j + 1)
      have htt := Htot.out
      generalize p.regs.getD j default = r at *
      have hw6 : wordsOf r ≤ 64 := words_le r Hlg.out.2
      have a0 : wr.cell? ⟨g, 0, none⟩ = some (.slice oa p.regs.length cap) := by rw [bA.cell]; rfl
      go_wp2_with fail
      (with_reducible refine (rWords_c r Hlg.out.1 Hlg.out.2 wr).mono ?_)
      rintro e w2 ⟨rfl, hx⟩
      have XE := Lib.hid (XE.out.trans hx)
      clear hx a0 e0 e1
      go_wp2
      go_roundw
      case rel => exact ⟨j + 1, by omega, by go_num, by rw [Hbs.out]; go_num, XE.out⟩
      case measure => first | (simp [intOf]; done) | (simp [intOf]; omega)
    · have hje : j = m := by omega
      subst hje
      have hlt2 : decide ((j : Int) < (j : Int)) = false := by simp
      go_wp2
      go_ret
      exact ⟨rfl, X.out⟩

def RegsPost (k : Nat) (E : TypeId) (l : List Int) (i : LIns) (w : World) (e : Ending) (w' : World) : Prop :=
  ∃ ao cap, e = .returned (.slice ao (plainS l i).length cap) ∧ Src w' 3 ao (plainS l i).length ((plainS l i).flatMap seeCells) ∧ w.grownBy w' (some k) ∧ Blk w' k E (regV (plainR l i))
theorem regs_post {k : Nat} {E : TypeId} {l l' : List Int} {i : LIns} {w w1 w2 : World} (hs : plainS l i = []) (hr : plainR l i = l') (hg : w.grownBy w1 (some k)) (hx : Ext w1 w2) (hb : Blk w1 k E (regV l')) : RegsPost k E l i w (.returned (.slice none 0 0)) w2 := by
  refine ⟨none, 0, by rw [hs]; rfl, by rw [hs]; exact src_none _ _, grown_trans hg (ext_grown hx _), by rw [hr]; exact hb.ext hx⟩
theorem regs_put {k : Nat} {E : TypeId} {l : List Int} {w w1 : World} {a v : Int} (hb : Blk w1 k E (regV l)) (hx : Ext w w1) : w.grownBy (w1.setCell ⟨k, a.toNat, none⟩ (.int .i64 v)) (some k) ∧ Blk (w1.setCell ⟨k, a.toNat, none⟩ (.int .i64 v)) k E (regV (rset l a v)) :=
  ⟨grown_trans (ext_grown hx _) (set_grown _ _ _), by rw [← regV_set]; exact hb.set_ _ _⟩
theorem plainS_nil {l : List Int} {i : LIns} (h : ¬ (i.op = 29 ∨ i.op = 30)) : plainS l i = [] := by unfold plainS; rw [if_neg h]

set_option maxRecDepth 100000 in
set_option maxHeartbeats 2000000 in
theorem regs_set (k : Nat) (E : TypeId) (l : List Int) (a b c n : Int) (hl : l.length = 10) (h64 : All64 l) (ha : okIn 10 a = true) (w : World) (h : Blk w k E (regV l)) :
    Calls Try.prog 67 #[.slice (some ⟨k, 0, none⟩) 10 10, insV ⟨1, a, b, c, n⟩] w (RegsPost k E l ⟨1, a, b, c, n⟩ w) := by
  unfold insV
  simp only
  have hkl := h.lt
  obtain ⟨ra, fa⟩ := reg_cell h hl ha
  obtain ⟨a0, a1⟩ := okIn_iff.1 ha
  have rr : w.cell? ⟨k, a.toNat, none⟩ = some (.int .i64 (rg l a)) ∧ w.frozen? ⟨k, a.toNat, none⟩ = false := ⟨ra, fa⟩
  have hix := index_row
  go_enter Try.func67, Try.ntmps67
  go_wp2
  go_ret
  obtain ⟨h1, h2⟩ := regs_put (a := a) (v := n) h (Ext.refl w)
  first | exact regs_post (plainS_nil (by simp)) rfl h1 ((Ext.refl _).alloc _) h2

set_option maxRecDepth 100000 in
set_option maxHeartbeats 2000000 in
theorem regs_move (k : Nat) (E : TypeId) (l : List Int) (a b c n : Int) (hl : l.length = 10) (h64 : All64 l) (ha : okIn 10 a = true) (hb : okIn 10 b = true) (w : World) (h : Blk w k E (regV l)) :
    Calls Try.prog 67 #[.slice (some ⟨k, 0, none⟩) 10 10, insV ⟨2, a, b, c, n⟩] w (RegsPost k E l ⟨2, a, b, c, n⟩ w) := by
  unfold insV
  simp only
  have hkl := h.lt
  obtain ⟨ra, fa⟩ := reg_cell h hl ha
  obtain ⟨a0, a1⟩ := okIn_iff.1 ha
  obtain ⟨rb, fb⟩ := reg_cell h hl hb
  obtain ⟨b0, b1⟩ := okIn_iff.1 hb
  have hix := index_row
  go_enter Try.func67, Try.ntmps67
  go_upto_region 10 with fail
  obtain ⟨w0, e, he, hW, hs0, hx0, c0, c1, c2, c3, c4⟩ := new5 w 70 (.int .i64 2) (.int .i64 a) (.int .i64 b) (.int .i64 c) (.int .i64 n)
  rw [hW, he]
  have k1 : ∀ W, Ext w0 W → W.cell? ⟨e, 1, none⟩ = some (.int .i64 a) := fun _ h => h.kept c1
  have k2 : ∀ W, Ext w0 W → W.cell? ⟨e, 2, none⟩ = some (.int .i64 b) := fun _ h => h.kept c2
  have mb : ∀ W, Ext w0 W → W.cell? ⟨k, b.toNat, none⟩ = some (.int .i64 (rg l b)) := fun _ h => h.kept (hx0.kept rb)
  have rr := kept2 hx0 ⟨ra, fa⟩
  have X := Lib.hid hx0
  clear hW he hs0 hx0 c0 c1 c2 c3 c4 ra fa rb fb
  refine region_calm 9 (by kernel_rfl) (by kernel_rfl) ?_
  simp only [List.take_succ_cons, List.take_zero, List.drop_succ_cons, List.drop_zero]
  repeat (first | (refine calm_fresh ?_ ?_ (fun wc hE => ?_) ?_; (decide); rfl; (focus (go_simp; done)); go_simp) | (refine calm_value ?_ ?_ ?_; (decide); (first | rfl | (focus (go_simp; done))); apply Exists.intro; refine ⟨fun wc hE => ?_, ?_⟩; (go_simp; exact rfl); go_simp) | (refine calm_call ?_ ?_ ?_; (decide); (first | rfl | (focus (go_simp; done))); apply Exists.intro; refine ⟨fun wc hE => ?_, ?_⟩; (go_simp; (first | fail)); go_simp) | (refine calm_skip ?_ ?_ ?_; (decide); (focus (go_simp; done)); go_simp))
  refine calm_nil ?_
  intro wx hx
  have X := Lib.hid (X.out.trans hx)
  have rr := kept2 hx rr
  clear hx k1 k2 mb
  go_wp2
  go_ret
  obtain ⟨h1, h2⟩ := regs_put (a := a) (v := rg l b) (h.ext X.out) X.out
  first | exact regs_post (plainS_nil (by simp)) rfl h1 (Ext.refl _) h2

set_option maxRecDepth 100000 in
set_option maxHeartbeats 2000000 in
theorem regs_add (k : Nat) (E : TypeId) (l : List Int) (a b c n : Int) (hl : l.length = 10) (h64 : All64 l) (ha : okIn 10 a = true) (hb : okIn 10 b = true) (w : World) (h : Blk w k E (regV l)) :
    Calls Try.prog 67 #[.slice (some ⟨k, 0, none⟩) 10 10, insV ⟨10, a, b, c, n⟩] w (RegsPost k E l ⟨10, a, b, c, n⟩ w) := by
  unfold insV
  simp only
  have hkl := h.lt
  obtain ⟨ra, fa⟩ := reg_cell h hl ha
  obtain ⟨a0, a1⟩ := okIn_iff.1 ha
  obtain ⟨rb, fb⟩ := reg_cell h hl hb
  obtain ⟨b0, b1⟩ := okIn_iff.1 hb
  have hix := index_row
  go_enter Try.func67, Try.ntmps67
  go_upto_region 12 with fail
  obtain ⟨w0, e, he, hW, hs0, hx0, c0, c1, c2, c3, c4⟩ := new5 w 70 (.int .i64 10) (.int .i64 a) (.int .i64 b) (.int .i64 c) (.int .i64 n)
  rw [hW, he]
  have k1 : ∀ W, Ext w0 W → W.cell? ⟨e, 1, none⟩ = some (.int .i64 a) := fun _ h => h.kept c1
  have k2 : ∀ W, Ext w0 W → W.cell? ⟨e, 2, none⟩ = some (.int .i64 b) := fun _ h => h.kept c2
  have k4 : ∀ W, Ext w0 W → W.cell? ⟨e, 4, none⟩ = some (.int .i64 n) := fun _ h => h.kept c4
  have mb : ∀ W, Ext w0 W → W.cell? ⟨k, b.toNat, none⟩ = some (.int .i64 (rg l b)) := fun _ h => h.kept (hx0.kept rb)
  have rr := kept2 hx0 ⟨ra, fa⟩
  have X := Lib.hid hx0
  clear hW he hs0 hx0 c0 c1 c2 c3 c4 ra fa rb fb
  refine region_calm 12 (by kernel_rfl) (by kernel_rfl) ?_
  simp only [List.take_succ_cons, List.take_zero, List.drop_succ_cons, List.drop_zero]
  repeat (first | (refine calm_fresh ?_ ?_ (fun wc hE => ?_) ?_; (decide); rfl; (focus (go_simp; done)); go_simp) | (refine calm_value ?_ ?_ ?_; (decide); (first | rfl | (focus (go_simp; done))); apply Exists.intro; refine ⟨fun wc hE => ?_, ?_⟩; (go_simp; exact rfl); go_simp) | (refine calm_call ?_ ?_ ?_; (decide); (first | rfl | (focus (go_simp; done))); apply Exists.intro; refine ⟨fun wc hE => ?_, ?_⟩; (go_simp; (first | fail)); go_simp) | (refine calm_skip ?_ ?_ ?_; (decide); (focus (go_simp; done)); go_simp))
  refine calm_nil ?_
  intro wx hx
  have X := Lib.hid (X.out.trans hx)
  have rr := kept2 hx rr
  clear hx k1 k2 k4 mb
  go_wp2
  go_ret
  obtain ⟨h1, h2⟩ := regs_put (a := a) (v := wrap64 (rg l b + n)) (h.ext X.out) X.out
  try rw [show IntKind.i64.wrap (rg l b + n) = wrap64 (rg l b + n) by rw [IntKind.wrap_i64]; unfold wrap64; rfl]
  first | exact regs_post (plainS_nil (by simp)) rfl h1 (Ext.refl _) h2

set_option maxRecDepth 100000 in
set_option maxHeartbeats 2000000 in
theorem regs_mask (k : Nat) (E : TypeId) (l : List Int) (a b c n : Int) (hl : l.length = 10) (h64 : All64 l) (ha : okIn 10 a = true) (w : World) (h : Blk w k E (regV l)) :
    Calls Try.prog 67 #[.slice (some ⟨k, 0, none⟩) 10 10, insV ⟨11, a, b, c, n⟩] w (RegsPost k E l ⟨11, a, b, c, n⟩ w) := by
  unfold insV
  simp only
  have hkl := h.lt
  obtain ⟨ra, fa⟩ := reg_cell h hl ha
  obtain ⟨a0, a1⟩ := okIn_iff.1 ha
  have hix := index_row
  have key : Hid (plainR l ⟨11, a, b, c, n⟩ = rset l a 0) → ∀ w1, Ext w w1 → Blk w1 k E (regV l) → RegsPost k E l ⟨11, a, b, c, n⟩ w (.returned (.slice none 0 0)) (w1.setCell ⟨k, a.toNat, none⟩ (.int .i64 0)) := by
    intro hr w1 hx hb
    obtain ⟨h1, h2⟩ := regs_put (a := a) (v := 0) hb hx
    exact regs_post (plainS_nil (by simp)) hr.out h1 (Ext.refl _) h2
  have Key := Lib.hid key
  clear key
  by_cases hneg : rg l a < 0
  · have Hr : Hid (plainR l ⟨11, a, b, c, n⟩ = rset l a 0) := Lib.hid (by simp [plainR, hneg])
    go_enter Try.func67, Try.ntmps67
    go_upto_region 14 with fail
    obtain ⟨w0, e, he, hW, hs0, hx0, c0, c1, c2, c3, c4⟩ := new5 w 70 (.int .i64 11) (.int .i64 a) (.int .i64 b) (.int .i64 c) (.int .i64 n)
    rw [hW, he]
    have k1 : ∀ W, Ext w0 W → W.cell? ⟨e, 1, none⟩ = some (.int .i64 a) := fun _ h => h.kept c1
    have k4 : ∀ W, Ext w0 W → W.cell? ⟨e, 4, none⟩ = some (.int .i64 n) := fun _ h => h.kept c4
    have ma : ∀ W, Ext w0 W → W.cell? ⟨k, a.toNat, none⟩ = some (.int .i64 (rg l a)) := fun _ h => h.kept (hx0.kept ra)
    have rr := kept2 hx0 ⟨ra, fa⟩
    have X := Lib.hid hx0
    clear hW he hs0 hx0 c0 c2 c3 ra fa
    refine region_calm 16 (by kernel_rfl) (by kernel_rfl) ?_
    simp only [List.take_succ_cons, List.take_zero, List.drop_succ_cons, List.drop_zero]
    repeat (first | (refine calm_fresh ?_ ?_ (fun wc hE => ?_) ?_; (decide); rfl; (focus (go_simp; done)); go_simp) | (refine calm_value ?_ ?_ ?_; (decide); (first | rfl | (focus (go_simp; done))); apply Exists.intro; refine ⟨fun wc hE => ?_, ?_⟩; (go_simp; exact rfl); go_simp) | (refine calm_call ?_ ?_ ?_; (decide); (first | rfl | (focus (go_simp; done))); apply Exists.intro; refine ⟨fun wc hE => ?_, ?_⟩; (go_simp; (first | fail)); go_simp) | (refine calm_skip ?_ ?_ ?_; (decide); (focus (go_simp; done)); go_simp))
    refine calm_nil ?_
    intro wx hx
    have X := Lib.hid (X.out.trans hx)
    have rr := kept2 hx rr
    have c1 := hx.kept c1
    clear hx c4 k1 k4 ma
    go_wp2
    go_ret
    first | exact Key.out Hr wx X.out (h.ext X.out)
  by_cases hge : n ≤ rg l a
  · have Hr : Hid (plainR l ⟨11, a, b, c, n⟩ = rset l a 0) := Lib.hid (by simp [plainR, hge])
    have hn0 : decide (rg l a < 0) = false := by simpa using hneg
    clear hneg
    go_enter Try.func67, Try.ntmps67
    go_upto_region 14 with fail
    obtain ⟨w0, e, he, hW, hs0, hx0, c0, c1, c2, c3, c4⟩ := new5 w 70 (.int .i64 11) (.int .i64 a) (.int .i64 b) (.int .i64 c) (.int .i64 n)
    rw [hW, he]
    have k1 : ∀ W, Ext w0 W → W.cell? ⟨e, 1, none⟩ = some (.int .i64 a) := fun _ h => h.kept c1
    have k4 : ∀ W, Ext w0 W → W.cell? ⟨e, 4, none⟩ = some (.int .i64 n) := fun _ h => h.kept c4
    have ma : ∀ W, Ext w0 W → W.cell? ⟨k, a.toNat, none⟩ = some (.int .i64 (rg l a)) := fun _ h => h.kept (hx0.kept ra)
    have rr := kept2 hx0 ⟨ra, fa⟩
    have X := Lib.hid hx0
    clear hW he hs0 hx0 c0 c2 c3 ra fa
    refine region_calm 16 (by kernel_rfl) (by kernel_rfl) ?_
    simp only [List.take_succ_cons, List.take_zero, List.drop_succ_cons, List.drop_zero]
    repeat (first | (refine calm_fresh ?_ ?_ (fun wc hE => ?_) ?_; (decide); rfl; (focus (go_simp; done)); go_simp) | (refine calm_value ?_ ?_ ?_; (decide); (first | rfl | (focus (go_simp; done))); apply Exists.intro; refine ⟨fun wc hE => ?_, ?_⟩; (go_simp; exact rfl); go_simp) | (refine calm_call ?_ ?_ ?_; (decide); (first | rfl | (focus (go_simp; done))); apply Exists.intro; refine ⟨fun wc hE => ?_, ?_⟩; (go_simp; (first | fail)); go_simp) | (refine calm_skip ?_ ?_ ?_; (decide); (focus (go_simp; done)); go_simp))
    refine calm_nil ?_
    intro wx hx
    have X := Lib.hid (X.out.trans hx)
    have rr := kept2 hx rr
    have c1 := hx.kept c1
    clear hx c4 k1 k4 ma
    go_wp2
    go_ret
    first | exact Key.out Hr wx X.out (h.ext X.out)
  · have Hr : Hid (plainR l ⟨11, a, b, c, n⟩ = l) := Lib.hid (by simp [plainR, hge, hneg])
    have hn0 : decide (rg l a < 0) = false := by simpa using hneg
    have hn1 : decide (n ≤ rg l a) = false := by simpa using hge
    clear hneg hge
    go_enter Try.func67, Try.ntmps67
    go_upto_region 14 with fail
    obtain ⟨w0, e, he, hW, hs0, hx0, c0, c1, c2, c3, c4⟩ := new5 w 70 (.int .i64 11) (.int .i64 a) (.int .i64 b) (.int .i64 c) (.int .i64 n)
    rw [hW, he]
    have k1 : ∀ W, Ext w0 W → W.cell? ⟨e, 1, none⟩ = some (.int .i64 a) := fun _ h => h.kept c1
    have k4 : ∀ W, Ext w0 W → W.cell? ⟨e, 4, none⟩ = some (.int .i64 n) := fun _ h => h.kept c4
    have ma : ∀ W, Ext w0 W → W.cell? ⟨k, a.toNat, none⟩ = some (.int .i64 (rg l a)) := fun _ h => h.kept (hx0.kept ra)
    have rr := kept2 hx0 ⟨ra, fa⟩
    have X := Lib.hid hx0
    clear hW he hs0 hx0 c0 c2 c3 ra fa
    refine region_calm 16 (by kernel_rfl) (by kernel_rfl) ?_
    simp only [List.take_succ_cons, List.take_zero, List.drop_succ_cons, List.drop_zero]
    repeat (first | (refine calm_fresh ?_ ?_ (fun wc hE => ?_) ?_; (decide); rfl; (focus (go_simp; done)); go_simp) | (refine calm_value ?_ ?_ ?_; (decide); (first | rfl | (focus (go_simp; done))); apply Exists.intro; refine ⟨fun wc hE => ?_, ?_⟩; (go_simp; exact rfl); go_simp) | (refine calm_call ?_ ?_ ?_; (decide); (first | rfl | (focus (go_simp; done))); apply Exists.intro; refine ⟨fun wc hE => ?_, ?_⟩; (go_simp; (first | fail)); go_simp) | (refine calm_skip ?_ ?_ ?_; (decide); (focus (go_simp; done)); go_simp))
    refine calm_nil ?_
    intro wx hx
    have X := Lib.hid (X.out.trans hx)
    have rr := kept2 hx rr
    have c1 := hx.kept c1
    clear hx c4 k1 k4 ma
    go_wp2
    go_ret
    first | exact regs_post (plainS_nil (by simp)) Hr.out (ext_grown X.out _) (Ext.refl _) (h.ext X.out)

set_option maxRecDepth 100000 in
set_option maxHeartbeats 2000000 in
theorem regs_fence (k : Nat) (E : TypeId) (l : List Int) (a b c n : Int) (hl : l.length = 10) (h64 : All64 l) (hop : True) (w : World) (h : Blk w k E (regV l)) :
    Calls Try.prog 67 #[.slice (some ⟨k, 0, none⟩) 10 10, insV ⟨12, a, b, c, n⟩] w (RegsPost k E l ⟨12, a, b, c, n⟩ w) := by
  unfold insV
  simp only
  have hkl := h.lt
  have hix := index_row
  go_enter Try.func67, Try.ntmps67
  go_wp2
  go_ret
  exact regs_post (plainS_nil (by simp)) rfl (ext_grown (Ext.refl _) _) ((Ext.refl _).alloc _) h

set_option maxRecDepth 100000 in
set_option maxHeartbeats 2000000 in
theorem regs_op (k : Nat) (E : TypeId) (l : List Int) (op a b c n : Int) (hl : l.length = 10) (h64 : All64 l) (ha : okIn 10 a = true) (hb : okIn 10 b = true) (hc : okIn 10 c = true) (o1 : 21 ≤ op) (o2 : op ≤ 28) (w : World) (h : Blk w k E (regV l)) :
    Calls Try.prog 67 #[.slice (some ⟨k, 0, none⟩) 10 10, insV ⟨op, a, b, c, n⟩] w (RegsPost k E l ⟨op, a, b, c, n⟩ w) := by
  unfold insV
  simp only
  have hkl := h.lt
  obtain ⟨ra, fa⟩ := reg_cell h hl ha
  obtain ⟨a0, a1⟩ := okIn_iff.1 ha
  obtain ⟨rb, fb⟩ := reg_cell h hl hb
  obtain ⟨b0, b1⟩ := okIn_iff.1 hb
  obtain ⟨rc, fc⟩ := reg_cell h hl hc
  obtain ⟨c0, c1⟩ := okIn_iff.1 hc
  have hsub : IntKind.i64.wrap (op - 20) = op - 20 := Go.IntWalk.i64_in _ (by omega)
  have q1 : (op == (1 : Int)) = false := by simp; try omega
  have q2 : (op == (2 : Int)) = false := by simp; try omega
  have q3 : (op == (10 : Int)) = false := by simp; try omega
  have q4 : (op == (11 : Int)) = false := by simp; try omega
  have q5 : (op == (12 : Int)) = false := by simp; try omega
  have q6 : (op == (29 : Int)) = false := by simp; omega
  have q7 : (op == (30 : Int)) = false := by simp; omega
  have Hr : Hid (plainR l ⟨op, a, b, c, n⟩ = rset l a (nop (op - 20) (rg l b) (rg l c))) := Lib.hid (by
    unfold plainR
    rw [if_neg (by simp only; omega), if_neg (by simp only; omega), if_neg (by simp only; omega), if_neg (by simp only; omega), if_neg (by simp only; omega)]
    try rfl)
  have hix := index_row
  go_enter Try.func67, Try.ntmps67
  go_upto_region 4 with fail
  obtain ⟨w0, e, he, hW, hs0, hx0, c0, c1, c2, c3, c4⟩ := new5 w 70 (.int .i64 op) (.int .i64 a) (.int .i64 b) (.int .i64 c) (.int .i64 n)
  rw [hW, he]
  have k0 : ∀ W, Ext w0 W → W.cell? ⟨e, 0, none⟩ = some (.int .i64 op) := fun _ h => h.kept c0
  have k1 : ∀ W, Ext w0 W → W.cell? ⟨e, 1, none⟩ = some (.int .i64 a) := fun _ h => h.kept c1
  have k2 : ∀ W, Ext w0 W → W.cell? ⟨e, 2, none⟩ = some (.int .i64 b) := fun _ h => h.kept c2
  have k3 : ∀ W, Ext w0 W → W.cell? ⟨e, 3, none⟩ = some (.int .i64 c) := fun _ h => h.kept c3
  have mb : ∀ W, Ext w0 W → W.cell? ⟨k, b.toNat, none⟩ = some (.int .i64 (rg l b)) := fun _ h => h.kept (hx0.kept rb)
  have mc : ∀ W, Ext w0 W → W.cell? ⟨k, c.toNat, none⟩ = some (.int .i64 (rg l c)) := fun _ h => h.kept (hx0.kept rc)
  have rr := kept2 hx0 ⟨ra, fa⟩
  have X := Lib.hid hx0
  have C0 : w0.cell? ⟨e, 0, none⟩ = some (.int .i64 op) := c0
  obtain ⟨vb0, vb1⟩ := rg64 h64 b
  obtain ⟨vc0, vc1⟩ := rg64 h64 c
  have hke : k ≠ e := by omega
  clear hW hs0 hx0 c0 c1 c2 c3 c4 ra fa rb fb rc fc
  refine region_calm 10 (by kernel_rfl) (by kernel_rfl) ?_
  simp only [List.take_succ_cons, List.take_zero, List.drop_succ_cons, List.drop_zero]
  repeat (first | (refine calm_fresh ?_ ?_ (fun wc hE => ?_) ?_; (decide); rfl; (focus (go_simp; done)); go_simp) | (refine calm_value ?_ ?_ ?_; (decide); (first | rfl | (focus (go_simp; done))); apply Exists.intro; refine ⟨fun wc hE => ?_, ?_⟩; (go_simp; exact rfl); go_simp) | (refine calm_call ?_ ?_ ?_; (decide); (first | rfl | (focus (go_simp; done))); apply Exists.intro; refine ⟨fun wc hE => ?_, ?_⟩; (go_simp; (first | (with_reducible exact calm_enter (refOp_c (op - 20) (rg l b) (rg l c) _ vb0 vb1 vc0 vc1)))); go_simp) | (refine calm_skip ?_ ?_ ?_; (decide); (focus (go_simp; done)); go_simp))
  refine calm_nil ?_
  intro wx hx
  have X := Lib.hid (X.out.trans hx)
  have rr := kept2 hx rr
  have C0 := hx.kept C0
  clear hx k0 k1 k2 k3 mb mc hsub
  go_wp2
  go_ret
  obtain ⟨h1, h2⟩ := regs_put (a := a) (v := nop (op - 20) (rg l b) (rg l c)) (h.ext X.out) X.out
  first | exact regs_post (plainS_nil (by simp only; omega)) Hr.out h1 (Ext.refl _) h2

set_option maxRecDepth 100000 in
set_option maxHeartbeats 2000000 in
theorem regs_op29 (k : Nat) (E : TypeId) (l : List Int) (a b c n : Int) (hl : l.length = 10) (h64 : All64 l) (ha : okIn 10 a = true) (hb : okIn 10 b = true) (hc : okIn 10 c = true) (w : World) (h : Blk w k E (regV l)) :
    Calls Try.prog 67 #[.slice (some ⟨k, 0, none⟩) 10 10, insV ⟨29, a, b, c, n⟩] w (RegsPost k E l ⟨29, a, b, c, n⟩ w) := by
  unfold insV
  simp only
  have hkl := h.lt
  obtain ⟨ra, fa⟩ := reg_cell h hl ha
  obtain ⟨a0, a1⟩ := okIn_iff.1 ha
  obtain ⟨rb, fb⟩ := reg_cell h hl hb
  obtain ⟨b0, b1⟩ := okIn_iff.1 hb
  obtain ⟨rc, fc⟩ := reg_cell h hl hc
  obtain ⟨c0, c1⟩ := okIn_iff.1 hc
  have hsub : IntKind.i64.wrap (9) = 9 := Go.IntWalk.i64_in _ (by omega)
  have q1 : (29 == (1 : Int)) = false := by simp; try omega
  have q2 : (29 == (2 : Int)) = false := by simp; try omega
  have q3 : (29 == (10 : Int)) = false := by simp; try omega
  have q4 : (29 == (11 : Int)) = false := by simp; try omega
  have q5 : (29 == (12 : Int)) = false := by simp; try omega
  have Hr : Hid (plainR l ⟨29, a, b, c, n⟩ = rset l a (nop (9) (rg l b) (rg l c))) := Lib.hid (by
    unfold plainR
    rw [if_neg (by simp only; omega), if_neg (by simp only; omega), if_neg (by simp only; omega), if_neg (by simp only; omega), if_neg (by simp only; omega)]
    try rfl)
  have hix := index_row
  go_enter Try.func67, Try.ntmps67
  go_upto_region 4 with fail
  obtain ⟨w0, e, he, hW, hs0, hx0, c0, c1, c2, c3, c4⟩ := new5 w 70 (.int .i64 29) (.int .i64 a) (.int .i64 b) (.int .i64 c) (.int .i64 n)
  rw [hW, he]
  have k0 : ∀ W, Ext w0 W → W.cell? ⟨e, 0, none⟩ = some (.int .i64 29) := fun _ h => h.kept c0
  have k1 : ∀ W, Ext w0 W → W.cell? ⟨e, 1, none⟩ = some (.int .i64 a) := fun _ h => h.kept c1
  have k2 : ∀ W, Ext w0 W → W.cell? ⟨e, 2, none⟩ = some (.int .i64 b) := fun _ h => h.kept c2
  have k3 : ∀ W, Ext w0 W → W.cell? ⟨e, 3, none⟩ = some (.int .i64 c) := fun _ h => h.kept c3
  have mb : ∀ W, Ext w0 W → W.cell? ⟨k, b.toNat, none⟩ = some (.int .i64 (rg l b)) := fun _ h => h.kept (hx0.kept rb)
  have mc : ∀ W, Ext w0 W → W.cell? ⟨k, c.toNat, none⟩ = some (.int .i64 (rg l c)) := fun _ h => h.kept (hx0.kept rc)
  have rr := kept2 hx0 ⟨ra, fa⟩
  have X := Lib.hid hx0
  have C0 : w0.cell? ⟨e, 0, none⟩ = some (.int .i64 29) := c0
  obtain ⟨vb0, vb1⟩ := rg64 h64 b
  obtain ⟨vc0, vc1⟩ := rg64 h64 c
  have hke : k ≠ e := by omega
  clear hW hs0 hx0 c0 c1 c2 c3 c4 ra fa rb fb rc fc
  refine region_calm 10 (by kernel_rfl) (by kernel_rfl) ?_
  simp only [List.take_succ_cons, List.take_zero, List.drop_succ_cons, List.drop_zero]
  repeat (first | (refine calm_fresh ?_ ?_ (fun wc hE => ?_) ?_; (decide); rfl; (focus (go_simp; done)); go_simp) | (refine calm_value ?_ ?_ ?_; (decide); (first | rfl | (focus (go_simp; done))); apply Exists.intro; refine ⟨fun wc hE => ?_, ?_⟩; (go_simp; exact rfl); go_simp) | (refine calm_call ?_ ?_ ?_; (decide); (first | rfl | (focus (go_simp; done))); apply Exists.intro; refine ⟨fun wc hE => ?_, ?_⟩; (go_simp; (first | (with_reducible exact calm_enter (refOp_c (9) (rg l b) (rg l c) _ vb0 vb1 vc0 vc1)))); go_simp) | (refine calm_skip ?_ ?_ ?_; (decide); (focus (go_simp; done)); go_simp))
  refine calm_nil ?_
  intro wx hx
  have X := Lib.hid (X.out.trans hx)
  have rr := kept2 hx rr
  have C0 := hx.kept C0
  clear hx k0 k1 k2 k3 mb mc hsub
  go_wp2
  go_ret
  obtain ⟨h1, h2⟩ := regs_put (a := a) (v := nop (9) (rg l b) (rg l c)) (h.ext X.out) X.out
  have hs : plainS l ⟨29, a, b, c, n⟩ = [⟨3, rg l b, rg l c⟩] := rfl
  have hg := grown_trans h1 (ext_grown ((Ext.refl _).alloc (.cells #[.int .i64 3, .int .i64 (rg l b), .int .i64 (rg l c)] 98)) _)
  have hb := Blk.new (wx.setCell ⟨k, a.toNat, none⟩ (.int .i64 (nop 9 (rg l b) (rg l c)))) 98 #[.int .i64 3, .int .i64 (rg l b), .int .i64 (rg l c)]
  rw [setCell_size] at hb
  exact ⟨some ⟨wx.heap.size, 0, none⟩, 1, by rw [hs]; rfl, by rw [hs]; exact src_new (size := 3) hb rfl (by simp [Value.oneCell']), hg, by rw [Hr.out]; exact h2.alloc _⟩

set_option maxRecDepth 100000 in
set_option maxHeartbeats 2000000 in
theorem regs_op30 (k : Nat) (E : TypeId) (l : List Int) (a b c n : Int) (hl : l.length = 10) (h64 : All64 l) (ha : okIn 10 a = true) (hb : okIn 10 b = true) (hc : okIn 10 c = true) (w : World) (h : Blk w k E (regV l)) :
    Calls Try.prog 67 #[.slice (some ⟨k, 0, none⟩) 10 10, insV ⟨30, a, b, c, n⟩] w (RegsPost k E l ⟨30, a, b, c, n⟩ w) := by
  unfold insV
  simp only
  have hkl := h.lt
  obtain ⟨ra, fa⟩ := reg_cell h hl ha
  obtain ⟨a0, a1⟩ := okIn_iff.1 ha
  obtain ⟨rb, fb⟩ := reg_cell h hl hb
  obtain ⟨b0, b1⟩ := okIn_iff.1 hb
  obtain ⟨rc, fc⟩ := reg_cell h hl hc
  obtain ⟨c0, c1⟩ := okIn_iff.1 hc
  have hsub : IntKind.i64.wrap (10) = 10 := Go.IntWalk.i64_in _ (by omega)
  have q1 : (30 == (1 : Int)) = false := by simp; try omega
  have q2 : (30 == (2 : Int)) = false := by simp; try omega
  have q3 : (30 == (10 : Int)) = false := by simp; try omega
  have q4 : (30 == (11 : Int)) = false := by simp; try omega
  have q5 : (30 == (12 : Int)) = false := by simp; try omega
  have Hr : Hid (plainR l ⟨30, a, b, c, n⟩ = rset l a (nop (10) (rg l b) (rg l c))) := Lib.hid (by
    unfold plainR
    rw [if_neg (by simp only; omega), if_neg (by simp only; omega), if_neg (by simp only; omega), if_neg (by simp only; omega), if_neg (by simp only; omega)]
    try rfl)
  have hix := index_row
  go_enter Try.func67, Try.ntmps67
  go_upto_region 4 with fail
  obtain ⟨w0, e, he, hW, hs0, hx0, c0, c1, c2, c3, c4⟩ := new5 w 70 (.int .i64 30) (.int .i64 a) (.int .i64 b) (.int .i64 c) (.int .i64 n)
  rw [hW, he]
  have k0 : ∀ W, Ext w0 W → W.cell? ⟨e, 0, none⟩ = some (.int .i64 30) := fun _ h => h.kept c0
  have k1 : ∀ W, Ext w0 W → W.cell? ⟨e, 1, none⟩ = some (.int .i64 a) := fun _ h => h.kept c1
  have k2 : ∀ W, Ext w0 W → W.cell? ⟨e, 2, none⟩ = some (.int .i64 b) := fun _ h => h.kept c2
  have k3 : ∀ W, Ext w0 W → W.cell? ⟨e, 3, none⟩ = some (.int .i64 c) := fun _ h => h.kept c3
  have mb : ∀ W, Ext w0 W → W.cell? ⟨k, b.toNat, none⟩ = some (.int .i64 (rg l b)) := fun _ h => h.kept (hx0.kept rb)
  have mc : ∀ W, Ext w0 W → W.cell? ⟨k, c.toNat, none⟩ = some (.int .i64 (rg l c)) := fun _ h => h.kept (hx0.kept rc)
  have rr := kept2 hx0 ⟨ra, fa⟩
  have X := Lib.hid hx0
  have C0 : w0.cell? ⟨e, 0, none⟩ = some (.int .i64 30) := c0
  obtain ⟨vb0, vb1⟩ := rg64 h64 b
  obtain ⟨vc0, vc1⟩ := rg64 h64 c
  have hke : k ≠ e := by omega
  clear hW hs0 hx0 c0 c1 c2 c3 c4 ra fa rb fb rc fc
  refine region_calm 10 (by kernel_rfl) (by kernel_rfl) ?_
  simp only [List.take_succ_cons, List.take_zero, List.drop_succ_cons, List.drop_zero]
  repeat (first | (refine calm_fresh ?_ ?_ (fun wc hE => ?_) ?_; (decide); rfl; (focus (go_simp; done)); go_simp) | (refine calm_value ?_ ?_ ?_; (decide); (first | rfl | (focus (go_simp; done))); apply Exists.intro; refine ⟨fun wc hE => ?_, ?_⟩; (go_simp; exact rfl); go_simp) | (refine calm_call ?_ ?_ ?_; (decide); (first | rfl | (focus (go_simp; done))); apply Exists.intro; refine ⟨fun wc hE => ?_, ?_⟩; (go_simp; (first | (with_reducible exact calm_enter (refOp_c (10) (rg l b) (rg l c) _ vb0 vb1 vc0 vc1)))); go_simp) | (refine calm_skip ?_ ?_ ?_; (decide); (focus (go_simp; done)); go_simp))
  refine calm_nil ?_
  intro wx hx
  have X := Lib.hid (X.out.trans hx)
  have rr := kept2 hx rr
  have C0 := hx.kept C0
  clear hx k0 k1 k2 k3 mb mc hsub
  go_wp2
  go_ret
  obtain ⟨h1, h2⟩ := regs_put (a := a) (v := nop (10) (rg l b) (rg l c)) (h.ext X.out) X.out
  have hs : plainS l ⟨30, a, b, c, n⟩ = [⟨3, rg l b, rg l c⟩] := rfl
  have hg := grown_trans h1 (ext_grown ((Ext.refl _).alloc (.cells #[.int .i64 3, .int .i64 (rg l b), .int .i64 (rg l c)] 98)) _)
  have hb := Blk.new (wx.setCell ⟨k, a.toNat, none⟩ (.int .i64 (nop 10 (rg l b) (rg l c)))) 98 #[.int .i64 3, .int .i64 (rg l b), .int .i64 (rg l c)]
  rw [setCell_size] at hb
  exact ⟨some ⟨wx.heap.size, 0, none⟩, 1, by rw [hs]; rfl, by rw [hs]; exact src_new (size := 3) hb rfl (by simp [Value.oneCell']), hg, by rw [Hr.out]; exact h2.alloc _⟩

theorem rRegs_c (k : Nat) (E : TypeId) (l : List Int) (p : LProg) (i : LIns) (hl : l.length = 10) (h64 : All64 l) (hi : insOk p 10 i = true) (h3 : i.op ≠ 3 ∧ i.op ≠ 4 ∧ i.op ≠ 5 ∧ i.op ≠ 6 ∧ i.op ≠ 7 ∧ i.op ≠ 8 ∧ i.op ≠ 9) (w : World) (h : Blk w k E (regV l)) :
    Calls Try.prog 67 #[.slice (some ⟨k, 0, none⟩) 10 10, insV i] w (RegsPost k E l i w) := by
  obtain ⟨g1, g2, g10, g3, g5, g8, g9, g11, go, g7, gop⟩ := ins_regs hi
  obtain ⟨op, a, b, c, n⟩ := i
  simp only at h3
  by_cases e1 : op = 1
  · subst e1; exact regs_set k E l a b c n hl h64 (g1 rfl) w h
  by_cases e2 : op = 2
  · subst e2; exact regs_move k E l a b c n hl h64 (g2 rfl).1 (g2 rfl).2 w h
  by_cases e10 : op = 10
  · subst e10; exact regs_add k E l a b c n hl h64 (g10 rfl).1 (g10 rfl).2 w h
  by_cases e11 : op = 11
  · subst e11; exact regs_mask k E l a b c n hl h64 (g11 rfl).1 w h
  by_cases e12 : op = 12
  · subst e12; exact regs_fence k E l a b c n hl h64 trivial w h
  obtain ⟨p1, p2, p3, p4, p5⟩ := go e1 e2 e10 h3.1 h3.2.1 h3.2.2.1 h3.2.2.2.1 h3.2.2.2.2.1 h3.2.2.2.2.2.1 h3.2.2.2.2.2.2 e11 e12
  simp only at p4 p5
  by_cases e29 : op = 29
  · subst e29; exact regs_op29 k E l a b c n hl h64 p1 p2 p3 w h
  by_cases e30 : op = 30
  · subst e30; exact regs_op30 k E l a b c n hl h64 p1 p2 p3 w h
  exact regs_op k E l op a b c n hl h64 p1 p2 p3 p4 (by omega) w h

end Go.Proofs.Yteiknefajlocoaa
/- Walk of the reference's Copy. -/
namespace Go.Proofs.Yteiknefajlocoaa
open Go.ChangeShapes Go.WideShapes Go.ChangeAt Go.RowKit
set_option linter.unusedVariables false
set_option linter.unusedSimpArgs false

theorem index_mem' {oa : Option Addr} {n b o cap : Nat} (h : 0 < n → oa = some ⟨b, o, none⟩) (W : World) (i : Int) (h0 : 0 ≤ i) (h1 : i < n) :
    (Instr.indexAt 31 (.slice oa n cap) (.int .i64 i)).run Try.prog W = .ok (.pointer (some ⟨b, o + i.toNat, none⟩)) W := by
  obtain rfl := h (by omega)
  have hs : (Try.prog.info? 71).map (·.size) = some 1 := by kernel_rfl
  simp [Instr.indexAt, run_underlying Try.underlying31, asIntOf, h0, h1]
  exact addr_add b o _
theorem infoRow : (Try.prog.info? 71).map (fun i => (i.zero, i.size, i.bytes)) = some (some (.slice none 0 0), 1, 24) := by kernel_rfl
def CopyPost (m : List (List Int)) (w : World) (e : Ending) (w' : World) : Prop := ∃ u, e = .returned u ∧ MemOwn w' w.heap.size w'.heap.size 71 2 u m ∧ Ext w w'
set_option maxRecDepth 100000 in
set_option maxHeartbeats 2000000 in
theorem rCopy_c (m : List (List Int)) (v : Value) (w : World) (hm : MemAt w v m) (h1 : m.length ≤ 6) (h2 : ∀ l ∈ m, l.length ≤ 64) :
    Calls Try.prog 62 #[v] w (CopyPost m w) := by
  obtain ⟨oa, cap, b, o, rfl, hc1, hc2, vs0, hrow, hin⟩ := hm
  have hix := index_mem' (cap := cap) hrow.at_
  have Hrow := Lib.hid hrow
  have Hin := Lib.hid hin
  obtain ⟨i0, hi0, hz0, hz1, hz2⟩ := info_parts infoI64
  obtain ⟨j0, hj0, hy0, hy1, hy2⟩ := info_parts infoRow
  clear hrow hin hc1 hc2
  go_enter Try.func62, Try.ntmps62
  go_wp2_with fail
  go_loopw [3, 4] (fun out i wr => ∃ j : Nat, j ≤ m.length ∧ i = .int .i64 j ∧ MemOwn wr w.heap.size wr.heap.size 71 2 out (m.take j) ∧ Ext w wr) (fun _ i _ => m.length - (intOf i).toNat)
  case atStart => exact ⟨0, by omega, rfl, by simpa using mem_nil _ _ _ _ _, Ext.refl _⟩
  case round =>
    obtain ⟨j, hj, rfl, hM, hE⟩ := hrel
    by_cases hlt : j < m.length
    · obtain ⟨vs, g1, g2, g3, g4, g5⟩ := hM
      have hlj : (m.take j).length = j := by simp; omega
      have Htk : Hid (m.take (j + 1) = m.take j ++ [m.getD j default]) := Lib.hid (by rw [List.take_succ_eq_append_getElem hlt]; simp [hlt])
      have e0 := (Hrow.out.ext hE).one j hlt
      have hl64 := h2 _ (getD_mem hlt)
      obtain ⟨hb64, ol, lcap, lb, lo, hv, hl1, hl2, hlr⟩ := (Hin.out j hlt).ext hE
      generalize m.getD j default = l at *
      generalize vs0 j = vl at *
      subst hv
      have hbl := block_lt e0
      simp only at hbl
      obtain ⟨oo, oc, rfl⟩ := own_slice g2
      have Hlr := Lib.hid hlr
      rw [hlj] at g2
      have G2 := Lib.hid g2
      have G1 := Lib.hid g1
      have G4 := Lib.hid fun i hi => (g4 i hi).1
      have G5 := Lib.hid g5
      have X := Lib.hid hE
      have Hlj := Lib.hid hlj
      have hws := hE.size
      rw [hlj]
      clear g1 g2 g3 g4 g5 hE hlr hl1 hl2 hb64 hlj
      go_wp2_with (at_builtin; refine wpList_append_src _ rfl (.tmp 12) (.tmp 16) 71 rfl w.heap.size 2 i0 _ 1 8 Try.underlying71 hi0 hz0 hz1 hz2 rfl (by decide) _ 0 [] rfl ?c0 ol l.length lcap (l.map (Value.int .i64)) rfl ?c1 ?c3 ?c4 ?c5 ?_)
      case c0 =>
        have h := World.ownsRow_lit (base := w.heap.size) (e := 2) (size := 1) wr #[] 0 hws (by decide) rfl
        simpa [Act.eval] using h
      case c1 => exact src_ints .i64 (Hlr.out.ext ((Ext.refl _).alloc _))
      case c3 => unfold maxLen; omega
      case c4 => omega
      case c5 => simp; omega
      intro v1 w1 hown1 hgrow1 hat
      obtain ⟨o1, c1, rfl⟩ := own_slice hown1
      have hat1 : ∀ b, (Value.slice o1 l.length c1).ownBlock = some b → wr.heap.size ≤ b := by
        intro b hb
        rcases hat with hat | hat
        · rw [hat] at hb
          have hb2 : wr.heap.size = b := by simpa [Act.eval, Value.ownBlock] using hb
          omega
        · rw [hat] at hb
          have hb2 : wr.heap.size + 1 = b := by simpa using hb
          omega
      have hx1 : Ext wr w1 := ((Ext.refl wr).alloc _).grown hgrow1 (by
        intro k hk
        simp [Act.eval, Value.ownBlock] at hk
        omega)
      have Hv1 := Lib.hid hown1
      have Hat1 := Lib.hid hat1
      have X1 := Lib.hid hx1
      have hs1 := hx1.size
      clear hown1 hgrow1 hat hat1 hx1
      go_wp2_with (at_builtin; refine wpList_append_src _ rfl (.tmp 11) (.tmp 18) 31 rfl w.heap.size 71 j0 _ 1 24 Try.underlying31 hj0 hy0 hy1 hy2 rfl (by decide) _ j vs rfl (own_alloc (own_ext G2.out X1.out)) (some ⟨w1.heap.size, 0, none⟩) 1 1 [.slice o1 l.length c1] rfl ?d1 ?d3 ?d4 ?d5 ?_)
      case d1 => exact src_new (size := 1) (Blk.new w1 71 #[.slice o1 l.length c1]) rfl (by simp [Value.oneCell'])
      case d3 => unfold maxLen; omega
      case d4 => omega
      case d5 => simp; omega
      intro v2 w3 hown2 hgrow2 hat
      clear hat
      have hx2 : Ext wr (w1.alloc (.cells #[.slice o1 l.length c1] 71)) := X1.out.alloc _
      have HM : Hid (MemOwn w3 w.heap.size w3.heap.size 71 2 v2 (m.take (j + 1))) := Lib.hid (by
        rw [Htk.out]
        exact mem_push (wr := wr) (w1 := w1) (out := .slice oo j oc) (by decide) G1.out (by rw [Hlj.out]; exact G2.out) G4.out G5.out hx2 (own_alloc Hv1.out) Hat1.out (by rw [Hlj.out]; exact hown2) hgrow2)
      have X := Lib.hid (((X.out.trans X1.out).alloc _).grown hgrow2 (own_base G2.out))
      clear hown2 hgrow2 hx2 e0
      go_wp2
      go_roundw
      case rel => exact ⟨j + 1, by omega, by go_num, HM.out, X.out⟩
      case measure => first | (simp [intOf]; done) | (simp [intOf]; omega)
    · have hje : j = m.length := by omega
      subst hje
      rw [List.take_length] at hM
      have HM := Lib.hid hM
      have X := Lib.hid hE
      clear hM hE
      have hlt2 : decide ((m.length : Int) < (m.length : Int)) = false := by simp
      go_wp2
      go_ret
      exact ⟨_, rfl, HM.out, X.out⟩
end Go.Proofs.Yteiknefajlocoaa
/- The reference's run in memory: what each of its writes does to it. -/
namespace Go.Proofs.Yteiknefajlocoaa
open Go.ChangeShapes Go.WideShapes Go.ChangeAt Go.RowKit
set_option linter.unusedVariables false
set_option linter.unusedSimpArgs false

/-- the run at block gs, its registers at block k, what it has shown, its words: of the call's own; of all else nothing has turned since w0 -/
structure PSt (w0 wr : World) (U gs k : Nat) (vS vM : Value) (fin value : Int) (steps : Nat) (regs : List Int) (seen : List LSee) (mem : List (List Int)) : Prop where
  box : Blk wr gs 36 #[.int .i64 fin, .int .i64 value, .int .i64 steps, vS, vM]
  rg : Blk wr k 2 (regV regs)
  sn : wr.ownsRow U 98 3 vS seen.length (seen.flatMap seeCells)
  mm : MemOwn wr w0.heap.size U 71 2 vM mem
  bel : Ext w0 wr
  bu : w0.heap.size ≤ U
  ug : U ≤ gs
  uk : U ≤ k
section
variable {w0 wr w' : World} {U gs k : Nat} {vS vM : Value} {fin value : Int} {steps : Nat} {regs : List Int} {seen : List LSee} {mem : List (List Int)}
theorem PSt.size (h : PSt w0 wr U gs k vS vM fin value steps regs seen mem) : U ≤ wr.heap.size := by have := h.box.lt; have := h.ug; omega
theorem PSt.ext (h : PSt w0 wr U gs k vS vM fin value steps regs seen mem) (hx : Ext wr w') : PSt w0 w' U gs k vS vM fin value steps regs seen mem :=
  ⟨h.box.ext hx, h.rg.ext hx, own_ext h.sn hx, h.mm.below (Below.mono hx h.size), h.bel.trans hx, h.bu, h.ug, h.uk⟩
theorem PSt.kg (h : PSt w0 wr U gs k vS vM fin value steps regs seen mem) : k ≠ gs := Blk.ne_ h.rg h.box (by decide)
theorem PSt.sg (h : PSt w0 wr U gs k vS vM fin value steps regs seen mem) : some gs ≠ vS.ownBlock := own_ne h.sn h.box (by decide)
theorem PSt.sk (h : PSt w0 wr U gs k vS vM fin value steps regs seen mem) : some k ≠ vS.ownBlock := own_ne h.sn h.rg (by decide)
theorem set_below {B : Nat} (w : World) (p : Addr) (u : Value) (hp : B ≤ p.block) : Below B w (w.setCell p u) := Below.setCell (Below.refl _ _) hp u
/-- a field of the run put -/
theorem PSt.field (h : PSt w0 wr U gs k vS vM fin value steps regs seen mem) (i : Nat) (u : Value) {fin' value' : Int} {steps' : Nat}
    (hc : (#[.int .i64 fin, .int .i64 value, .int .i64 steps, vS, vM] : Array Value).setIfInBounds i u = #[.int .i64 fin', .int .i64 value', .int .i64 steps', vS, vM]) :
    PSt w0 (wr.setCell ⟨gs, i, none⟩ u) U gs k vS vM fin' value' steps' regs seen mem :=
  ⟨by rw [← hc]; exact h.box.set_ i u, h.rg.far (p := ⟨gs, i, none⟩) h.kg u, own_far h.sn h.sg u, h.mm.below (set_below _ _ _ h.ug), h.bel.setCell (Nat.le_trans h.bu h.ug) u, h.bu, h.ug, h.uk⟩
/-- registers put -/
theorem PSt.regs_ (h : PSt w0 wr U gs k vS vM fin value steps regs seen mem) {regs' : List Int} (hg : wr.grownBy w' (some k)) (hb : Blk w' k 2 (regV regs')) : PSt w0 w' U gs k vS vM fin value steps regs' seen mem :=
  ⟨h.box.grown hg (by intro e; simp only [Option.some.injEq] at e; exact h.kg e.symm), hb, own_grown h.sn hg (fun j e => by simp only [Option.some.injEq] at e; subst e; exact fun e => h.sk e.symm),
    h.mm.below (grown_below (Below.refl _ _) hg h.size (fun j e => by simp only [Option.some.injEq] at e; subst e; exact h.uk)),
    grown_below h.bel hg h.bel.size (fun j e => by simp only [Option.some.injEq] at e; subst e; exact Nat.le_trans h.bu h.uk), h.bu, h.ug, h.uk⟩
theorem PSt.reg1 (h : PSt w0 wr U gs k vS vM fin value steps regs seen mem) (a v : Int) : PSt w0 (wr.setCell ⟨k, a.toNat, none⟩ (.int .i64 v)) U gs k vS vM fin value steps (rset regs a v) seen mem :=
  h.regs_ (set_grown _ _ _) (by rw [← regV_set]; exact h.rg.set_ _ _)
/-- something shown: behind the append -/
theorem PSt.show1 (h : PSt w0 wr U gs k vS vM fin value steps regs seen mem) {vS' : Value} (hg : wr.grownBy w' vS.ownBlock) :
    Blk w' gs 36 #[.int .i64 fin, .int .i64 value, .int .i64 steps, vS, vM] := h.box.grown hg h.sg
/-- and its store -/
theorem PSt.show2 (h : PSt w0 wr U gs k vS vM fin value steps regs seen mem) {vS' : Value} {seen' : List LSee} (hg : wr.grownBy w' vS.ownBlock) (ho : w'.ownsRow U 98 3 vS' seen'.length (seen'.flatMap seeCells)) :
    PSt w0 (w'.setCell ⟨gs, 3, none⟩ vS') U gs k vS' vM fin value steps regs seen' mem := by
  have hb := h.box.grown hg h.sg
  have hne : some gs ≠ vS'.ownBlock := own_ne ho hb (by decide)
  have hbl : Below U wr w' := grown_below (Below.refl _ _) hg h.size (own_base h.sn)
  exact ⟨hb.set_ 3 vS', (h.rg.grown hg h.sk).far (p := ⟨gs, 3, none⟩) h.kg _, own_far ho hne _, (h.mm.below hbl).below (set_below _ _ _ h.ug),
    (grown_below h.bel hg h.bel.size (fun j e => Nat.le_trans h.bu (own_base h.sn j e))).setCell (Nat.le_trans h.bu h.ug) _, h.bu, h.ug, h.uk⟩
/-- a word put -/
theorem PSt.word (h : PSt w0 wr U gs k vS vM fin value steps regs seen mem) {c x ko j cap capo : Nat} (hc : c < mem.length) (hx : x < (mem.getD c default).length)
    (hv : vM = .slice (some ⟨ko, 0, none⟩) mem.length capo) (hk : wr.cell? ⟨ko, c, none⟩ = some (.slice (some ⟨j, 0, none⟩) (mem.getD c default).length cap)) (hB : w0.heap.size ≤ j) (hj : j < U) (z : Int) :
    PSt w0 (wr.setCell ⟨j, x, none⟩ (.int .i64 z)) U gs k vS vM fin value steps regs seen (mem.set c ((mem.getD c default).set x z)) := by
  have h1 := h.ug
  have h2 := h.uk
  exact ⟨h.box.far (p := ⟨j, x, none⟩) (by simp only; omega) _, h.rg.far (p := ⟨j, x, none⟩) (by simp only; omega) _,
    own_far h.sn (by intro e; have := own_base h.sn j e.symm; omega) _, h.mm.set_ (by decide) hc hx hv hk z, h.bel.setCell hB _, h.bu, h.ug, h.uk⟩
theorem PSt.cells (h : PSt w0 wr U gs k vS vM fin value steps regs seen mem) :
    (wr.cell? ⟨gs, 0, none⟩ = some (.int .i64 fin) ∧ wr.frozen? ⟨gs, 0, none⟩ = false) ∧ (wr.cell? ⟨gs, 1, none⟩ = some (.int .i64 value) ∧ wr.frozen? ⟨gs, 1, none⟩ = false) ∧ (wr.cell? ⟨gs, 2, none⟩ = some (.int .i64 steps) ∧ wr.frozen? ⟨gs, 2, none⟩ = false) ∧
      (wr.cell? ⟨gs, 3, none⟩ = some vS ∧ wr.frozen? ⟨gs, 3, none⟩ = false) ∧ (wr.cell? ⟨gs, 4, none⟩ = some vM ∧ wr.frozen? ⟨gs, 4, none⟩ = false) := by
  refine ⟨⟨?_, h.box.frozen _⟩, ⟨?_, h.box.frozen _⟩, ⟨?_, h.box.frozen _⟩, ⟨?_, h.box.frozen _⟩, ⟨?_, h.box.frozen _⟩⟩ <;> rw [h.box.cell] <;> rfl
end
theorem MemOwn.far {w : World} {B U : Nat} {T E : TypeId} {v : Value} {m : List (List Int)} (h : MemOwn w B U T E v m) {p : Addr} (hp : p.block < B) (u : Value) : MemOwn (w.setCell p u) B U T E v m := by
  obtain ⟨vs, h1, h2, h3, h4, h5⟩ := h
  have key : ∀ {e : TypeId} {s n : Nat} {v : Value} {xs : List Value}, w.ownsRow B e s v n xs → (w.setCell p u).ownsRow B e s v n xs := fun ho =>
    own_far ho (fun e => by have := own_base ho _ e.symm; omega) u
  exact ⟨vs, h1, key h2, h3, fun i hi => ⟨key (h4 i hi).1, (h4 i hi).2⟩, h5⟩
/-- how many steps a run has done, as memory has it -/
def stepsAt (w : World) (g : Nat) : Nat := match w.cell? ⟨g, 2, none⟩ with
  | some (.int _ n) => n.toNat
  | _ => 0
theorem stepsAt_of {w0 wr : World} {U gs k : Nat} {vS vM : Value} {fin value : Int} {steps : Nat} {regs : List Int} {seen : List LSee} {mem : List (List Int)} (h : PSt w0 wr U gs k vS vM fin value steps regs seen mem) : stepsAt wr gs = steps := by
  unfold stepsAt
  rw [h.cells.2.2.1.1]
  simp

/-! runs, step by step -/
structure MOk (p : LProg) (M : Mach) : Prop where
  len : M.regs.length = 10
  r64 : All64 M.regs
  wlen : M.words.length = total p
  w64 : All64 M.words
theorem MOk.step {p : LProg} {M : Mach} {i : LIns} (h : MOk p M) (hi : i.fits) : MOk p (stepM p i M) := by
  unfold stepM
  obtain ⟨h1, h2, h3, h4⟩ := h
  simp only
  repeat' split
  all_goals first
    | exact ⟨h1, h2, h3, h4⟩
    | exact ⟨h1, h2, by simpa using h3, h4.set _ (h2 _)⟩
    | exact ⟨by rw [rset_len]; exact h1, h2.rset _ (h4 _), h3, h4⟩
    | exact ⟨by rw [plain_len]; exact h1, all64_plain h2 hi.2.2.2.2, h3, h4⟩
theorem all64_of {l : List Int} (h : ∀ x ∈ l, R64 x) : All64 l := fun n => by
  by_cases hn : n < l.length
  · have : l.getD n 0 = l[n] := by simp [hn]
    rw [this]; exact h _ (List.getElem_mem hn)
  · rw [List.getD_eq_getElem?_getD, List.getElem?_eq_none (by omega)]
    exact r64_zero
theorem All64.mem {l : List Int} (h : All64 l) : ∀ x ∈ l, R64 x := fun x hx => by
  obtain ⟨n, hn, rfl⟩ := List.getElem_of_mem hx
  have := h n
  simpa [hn] using this
theorem mok_start {p : LProg} {m : List (List Int)} (hf : fitsOk p m = true) (h : ∀ l ∈ m, ∀ x ∈ l, R64 x) : MOk p (start m.flatten) :=
  ⟨by simp [start], all64_of (fun x hx => by simp only [start, List.mem_replicate] at hx; rw [hx.2]; exact r64_zero), flat_total hf, all64_of (fun x hx => by
    simp only [start, List.mem_flatten] at hx
    obtain ⟨l, hl, hx⟩ := hx
    exact h l hl x hx)⟩
structure MGood (p : LProg) (M : Mach) : Prop where
  ok : MOk p M
  at_ : M.at_ ≤ p.code.length
  seen : M.seen.length ≤ 2 * M.steps
theorem MGood.step {p : LProg} {M : Mach} {i : LIns} (h : MGood p M) (hi : i.fits) (hok : insOk p 10 i = true) (hlt : M.at_ < p.code.length) : MGood p (stepM p i M) := by
  obtain ⟨h1, h2, h3⟩ := h
  refine ⟨h1.step hi, ?_, ?_⟩
  · have hj := (ins_regs hok).2.2.2.2.2.2.2.2.2.1
    unfold stepM
    simp only
    repeat' split
    all_goals first
      | (simp only; omega)
      | (have := (hj (.inl ‹_›)).2; simp only; omega)
      | (have := (hj (.inr ‹_›)).2; simp only; omega)
  · rw [stepM_steps]
    unfold stepM
    simp only
    repeat' split
    all_goals (simp only [List.length_append, List.length_cons, List.length_nil, plainS]; try split)
    all_goals (try simp only [List.length_cons, List.length_nil])
    all_goals omega
theorem mgood_start {p : LProg} {m : List (List Int)} (hf : fitsOk p m = true) (h : ∀ l ∈ m, ∀ x ∈ l, R64 x) : MGood p (start m.flatten) := ⟨mok_start hf h, by simp [start], by simp [start]⟩
theorem runM_stop {p : LProg} {M : Mach} {n : Nat} (hn : 0 < n) (hf : M.fin = 0) (hi : p.code[M.at_]? = none) : runM p n M = { M with fin := 2 } := by
  obtain ⟨k, rfl⟩ : ∃ k, n = k + 1 := ⟨n - 1, by omega⟩
  rw [runM, if_neg (by omega), hi]
theorem runM_go {p : LProg} {M : Mach} {n : Nat} {i : LIns} (hn : 0 < n) (hf : M.fin = 0) (hi : p.code[M.at_]? = some i) : runM p n M = runM p (n - 1) (stepM p i M) := by
  obtain ⟨k, rfl⟩ : ∃ k, n = k + 1 := ⟨n - 1, by omega⟩
  rw [runM, if_neg (by omega), hi]
  simp
theorem play_next {p : LProg} {M F : Mach} {i : LIns} {fuel : Nat} (hgo : MGood p M) (hi : p.code[M.at_]? = some i) (hok : insOk p 10 i = true) (hfi : i.fits) (hlt : M.steps < fuel) (hfin : M.fin = 0) (hrun : runM p (fuel - M.steps) M = F) :
    MGood p (stepM p i M) ∧ (stepM p i M).steps ≤ fuel ∧ runM p (fuel - (stepM p i M).steps) (stepM p i M) = F := by
  have hat : M.at_ < p.code.length := (List.getElem?_eq_some_iff.1 hi).1
  refine ⟨hgo.step hfi hok hat, by rw [stepM_steps]; omega, ?_⟩
  rw [runM_go (by omega) hfin hi] at hrun
  rw [stepM_steps, ← hrun]
  congr 1
theorem play_last {p : LProg} {M F : Mach} {i : LIns} {fuel : Nat} (hgo : MGood p M) (hi : p.code[M.at_]? = some i) (hok : insOk p 10 i = true) (hfi : i.fits) (hlt : M.steps < fuel) (hfin : M.fin = 0) (hrun : runM p (fuel - M.steps) M = F) (hf : (stepM p i M).fin ≠ 0) :
    F = stepM p i M := by
  rw [← (play_next hgo hi hok hfi hlt hfin hrun).2.2, runM_end hf]
theorem word_parts {p : LProg} {i : LIns} (hok : insOk p 10 i = true) (h : i.op = 3 ∨ i.op = 4 ∨ i.op = 5 ∨ i.op = 6) : okIn 10 i.a = true ∧ okIn 10 i.b = true ∧ 0 ≤ i.c ∧ i.c.toNat < p.regs.length := by
  have hr : (isPut i || isTake i) = true := by unfold isPut isTake; rcases h with h | h | h | h <;> simp [h]
  have hc := region_there hok hr
  refine ⟨?_, ?_, hc⟩ <;> (unfold insOk at hok; rcases h with h | h | h | h <;> simp [h, okIn] at hok ⊢ <;> omega)
theorem step_fault {p : LProg} {i : LIns} {M : Mach} (h : i.op = 3 ∨ i.op = 4 ∨ i.op = 5 ∨ i.op = 6) (hin : insideB p i (idxOf M.regs i) = false) :
    stepM p i M = { M with at_ := M.at_ + 1, steps := M.steps + 1, seen := M.seen ++ [⟨1, M.at_, 0⟩], fin := 2 } := by
  have hr : (isPut i || isTake i) = true := by unfold isPut isTake; rcases h with h | h | h | h <;> simp [h]
  unfold stepM
  simp only
  rw [if_neg (by omega), if_neg (by omega), if_neg (by omega), if_pos hr, if_neg (by rw [hin]; simp)]
theorem step_put {p : LProg} {i : LIns} {M : Mach} (h : i.op = 4 ∨ i.op = 6) (hin : insideB p i (idxOf M.regs i) = true) :
    stepM p i M = { M with at_ := M.at_ + 1, steps := M.steps + 1, seen := M.seen ++ [⟨1, M.at_, 0⟩] ++ [⟨2, ((baseOf p i.c.toNat + (idxOf M.regs i).toNat : Nat) : Int), 1⟩], words := M.words.set (baseOf p i.c.toNat + (idxOf M.regs i).toNat) (rg M.regs i.a) } := by
  have hp : isPut i = true := by unfold isPut; rcases h with h | h <;> simp [h]
  unfold stepM putN
  simp only [hp, Bool.true_or, if_true]
  rw [if_neg (by omega), if_neg (by omega), if_neg (by omega), if_pos hin]
theorem step_take {p : LProg} {i : LIns} {M : Mach} (h : i.op = 3 ∨ i.op = 5) (hin : insideB p i (idxOf M.regs i) = true) :
    stepM p i M = { M with at_ := M.at_ + 1, steps := M.steps + 1, seen := M.seen ++ [⟨1, M.at_, 0⟩] ++ [⟨2, ((baseOf p i.c.toNat + (idxOf M.regs i).toNat : Nat) : Int), 0⟩], regs := rset M.regs i.a (M.words.getD (baseOf p i.c.toNat + (idxOf M.regs i).toNat) 0) } := by
  have hp : isPut i = false := by unfold isPut; rcases h with h | h <;> simp [h]
  have ht : isTake i = true := by unfold isTake; rcases h with h | h <;> simp [h]
  unfold stepM putN
  simp only [hp, ht, Bool.false_or, if_true]
  rw [if_neg (by omega), if_neg (by omega), if_neg (by omega), if_pos hin]
  simp
theorem step_plain {p : LProg} {i : LIns} {M : Mach} (h : i.op ≠ 3 ∧ i.op ≠ 4 ∧ i.op ≠ 5 ∧ i.op ≠ 6 ∧ i.op ≠ 7 ∧ i.op ≠ 8 ∧ i.op ≠ 9) :
    stepM p i M = { M with at_ := M.at_ + 1, steps := M.steps + 1, seen := M.seen ++ [⟨1, M.at_, 0⟩] ++ plainS M.regs i, regs := plainR M.regs i } := by
  have hr : (isPut i || isTake i) = false := by unfold isPut isTake; simp; omega
  unfold stepM
  simp only
  rw [if_neg (by omega), if_neg (by omega), if_neg (by omega), if_neg (by rw [hr]; simp)]
/-- what a run has shown, put into the result -/
theorem play_end {p : LProg} {M : Mach} {w w0 w1 : World} {U gs k g : Nat} {vS vM x0 x1 x2 x3 x4 : Value} (P : PSt w0 w1 U gs k vS vM M.fin M.value M.steps M.regs M.seen (splitW p M.words)) (h64 : All64 M.words)
    (hR : Blk w1 g 36 #[x0, x1, x2, x3, x4]) (hg : w.heap.size ≤ g) (hgB : g < w0.heap.size) (hx : Ext w w0) {w2 : World}
    (hw : w2 = ((((w1.setCell ⟨g, 0, none⟩ (.int .i64 M.fin)).setCell ⟨g, 1, none⟩ (.int .i64 M.value)).setCell ⟨g, 2, none⟩ (.int .i64 M.steps)).setCell ⟨g, 3, none⟩ vS).setCell ⟨g, 4, none⟩ vM) :
    Blk w2 g 36 #[.int .i64 M.fin, .int .i64 M.value, .int .i64 M.steps, vS, vM] ∧ ShownAt w2 (.agg #[.int .i64 M.fin, .int .i64 M.value, .int .i64 M.steps, vS, vM]) M.fin M.value M.steps M.seen (splitW p M.words) ∧ Ext w w2 := by
  subst hw
  have hne := own_ne P.sn hR (by decide)
  refine ⟨((((hR.set_ 0 _).set_ 1 _).set_ 2 _).set_ 3 _).set_ 4 _, ⟨vS, vM, rfl, seen_own (own_far (own_far (own_far (own_far (own_far P.sn hne _) hne _) hne _) hne _) hne _), ?_⟩, ?_⟩
  · exact (((((P.mm.far (p := ⟨g, 0, none⟩) hgB _).far (p := ⟨g, 1, none⟩) hgB _).far (p := ⟨g, 2, none⟩) hgB _).far (p := ⟨g, 3, none⟩) hgB _).far (p := ⟨g, 4, none⟩) hgB _).mem (words_all p _ R64 h64.mem)
  · exact (((((hx.trans P.bel).setCell hg _).setCell hg _).setCell hg _).setCell hg _).setCell hg _
end Go.Proofs.Yteiknefajlocoaa
