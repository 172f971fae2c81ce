/- Laid together from: Hst, Ref3a, Ref3b, Ref3c, Seq1, Ck1, CkL, Ref6a, Ref3d, Ref3e, Law1. -/
import Derived.Test.YtiiollmbogojoaaHardenQuietB14
import Derived.Test.YtiiollmbogojoaaHardenQuietB12
import Derived.Test.YtiiollmbogojoaaHardenQuietB16
import Derived.Test.YtiiollmbogojoaaHardenQuietB20
import Derived.Test.YtiiollmbogojoaaHardenQuietB18
import Derived.Test.YtiiollmbogojoaaHardenQuietB7
import Derived.Test.YtiiollmbogojoaaHardenQuietB9
import Derived.Test.YtiiollmbogojoaaHardenQuietB6
import Derived.Test.YtiiollmbogojoaaProg
import Derived.Test.YtiiollmbogojoaaHardenQuietB8
import Derived.Test.YtiiollmbogojoaaHardenQuietB23

namespace Go.Proofs.Ytiiollmbogojoaa
open Go.ChangeShapes Go.WideShapes Go.ChangeAt Go.RowKit
set_option linter.unusedVariables false
set_option linter.unusedSimpArgs false
theorem infoReg6 : (Try.prog.info? 85).map (fun i => (i.zero, i.size, i.bytes)) = some (some (.agg #[.int .i64 0, .bool false]), 2, 16) := by kernel_rfl
theorem infoIns6 : (Try.prog.info? 76).map (fun i => (i.zero, i.size, i.bytes)) = some (some (.agg #[.int .i64 0, .int .i64 0, .int .i64 0, .int .i64 0, .int .i64 0]), 5, 40) := by kernel_rfl
theorem infoProg6 : (Try.prog.info? 25).map (·.size) = some 2 := by kernel_rfl
theorem src_many {w : World} {k size m : Nat} {T : TypeId} {cs : Array Value} (h : Blk w k T cs) (hs : cs.size = m * size) (h1 : cs.all (·.oneCell') = true) : Src w size (some ⟨k, 0, none⟩) m cs.toList := by
  refine ⟨by simpa using hs, (fun e => by cases e), fun ad ha j u hu => ?_, fun u hu => ?_⟩
  · obtain rfl := Option.some.inj ha
    rw [show (⟨k, 0, none⟩ : Addr).add j = ⟨k, 0 + j, none⟩ from addr_add k 0 j, Nat.zero_add, h.cell]
    simpa using hu
  · rw [Array.all_eq_true'] at h1
    exact h1 u (by simpa using hu)
theorem insN_set : ∀ (l : List LIns) (k : Nat) (x : Int), k < l.length → (l.flatMap insCells).set (k * 5 + 4) (.int .i64 x) = (l.set k { l.getD k default with n := x }).flatMap insCells
  | [], k, x, h => by simp at h
  | i :: l, 0, x, h => by simp [insCells]
  | i :: l, k + 1, x, h => by
    have := insN_set l k x (by simpa using h)
    rw [List.flatMap_cons, show (k + 1) * 5 + 4 = k * 5 + 4 + 5 by omega, List.set_cons_succ, List.flatMap_cons, List.getD_cons_succ, ← this]
    simp [insCells]
theorem own_setN {w : World} {B kc cap n : Nat} {l : List LIns} (h : w.ownsRow B 76 5 (.slice (some ⟨kc, 0, none⟩) n cap) l.length (l.flatMap insCells)) {k : Nat} (hk : k < l.length) (x : Int) :
    (w.setCell ⟨kc, k * 5 + 4, none⟩ (.int .i64 x)).ownsRow B 76 5 (.slice (some ⟨kc, 0, none⟩) n cap) (l.set k { l.getD k default with n := x }).length ((l.set k { l.getD k default with n := x }).flatMap insCells) := by
  obtain ⟨h0, ⟨-, h1⟩ | ⟨g, cap', cur, hv, h1, h2, h3, h4, h5, h6⟩⟩ := h
  · omega
  simp only [Value.slice.injEq, Option.some.injEq, Addr.mk.injEq, and_true, true_and] at hv
  obtain ⟨rfl, rfl, rfl⟩ := hv
  have hb : Blk w kc 76 cur := h2
  have hl : (l.set k { l.getD k default with n := x }).length = l.length := by simp
  rw [hl, ← insN_set l k x hk]
  refine ⟨by simpa using h0, .inr ⟨kc, cap, cur.setIfInBounds (k * 5 + 4) (.int .i64 x), rfl, h1, hb.set_ _ _, h3, h4, by simpa using h5, ?_⟩⟩
  rw [← h6, Array.toList_setIfInBounds, List.take_set]
theorem own_ins_at {w : World} {B : Nat} {v : Value} {n : Nat} {l : List LIns} (h : w.ownsRow B 76 5 v n (l.flatMap insCells)) (hn : n = l.length) (h0 : 0 < n) : ∃ k cap, v = .slice (some ⟨k, 0, none⟩) n cap ∧ B ≤ k ∧ n ≤ cap ∧ cap ≤ maxLen ∧
    ∀ j, j < l.length → (w.cell? ⟨k, j * 5, none⟩ = some (.int .i64 (l.getD j default).op) ∧ w.frozen? ⟨k, j * 5, none⟩ = false) ∧ (w.cell? ⟨k, j * 5 + 4, none⟩ = some (.int .i64 (l.getD j default).n) ∧ w.frozen? ⟨k, j * 5 + 4, none⟩ = false) := by
  subst hn
  obtain ⟨hl, ⟨-, h1⟩ | ⟨g, cap', cur, rfl, h1, h2, h3, h4, h5, h6⟩⟩ := h
  · omega
  have hb : Blk w g 76 cur := h2
  refine ⟨g, cap', rfl, h1, h3, h4, fun j hj => ?_⟩
  have key : ∀ c, c < 5 → cur[j * 5 + c]? = (insCells (l.getD j default))[c]? := fun c hc => by
    rw [← flat_cell insCells 5 (fun _ => rfl) l j c hj hc, ← h6, List.getElem?_take_of_lt (by omega)]
    simp
  refine ⟨⟨?_, hb.frozen _⟩, ⟨?_, hb.frozen _⟩⟩
  · rw [hb.cell]
    have := key 0 (by omega)
    simpa [insCells] using this
  · rw [hb.cell]
    have := key 4 (by omega)
    simpa [insCells] using this
structure HSt (w0 wr : World) (B go : Nat) (vR vC vP : Value) (regs : List LReg) (code : List LIns) (places : List Int) : Prop where
  box : Blk wr go 25 #[vR, vC]
  rg : wr.ownsRow B 85 2 vR regs.length (regs.flatMap regCells)
  cd : wr.ownsRow B 76 5 vC code.length (code.flatMap insCells)
  pl : wr.ownsRow B 3 1 vP places.length (places.map (Value.int .i64))
  ext : Ext w0 wr
  hg : B ≤ go
  hB : w0.heap.size ≤ B
section
variable {w0 wr w' : World} {B go : Nat} {vR vC vP : Value} {regs : List LReg} {code : List LIns} {places : List Int}
theorem HSt.size (h : HSt w0 wr B go vR vC vP regs code places) : B ≤ wr.heap.size := by have := h.box.lt; have := h.hg; omega
theorem HSt.extend (h : HSt w0 wr B go vR vC vP regs code places) (hx : Ext wr w') : HSt w0 w' B go vR vC vP regs code places :=
  ⟨h.box.ext hx, own_ext h.rg hx, own_ext h.cd hx, own_ext h.pl hx, h.ext.trans hx, h.hg, h.hB⟩
theorem HSt.cells (h : HSt w0 wr B go vR vC vP regs code places) : (wr.cell? ⟨go, 0, none⟩ = some vR ∧ wr.frozen? ⟨go, 0, none⟩ = false) ∧ (wr.cell? ⟨go, 1, none⟩ = some vC ∧ wr.frozen? ⟨go, 1, none⟩ = false) :=
  ⟨⟨by rw [h.box.cell]; rfl, h.box.frozen _⟩, ⟨by rw [h.box.cell]; rfl, h.box.frozen _⟩⟩
theorem HSt.place (h : HSt w0 wr B go vR vC vP regs code places) {vP' : Value} {ps : List Int} (hg : wr.grownBy w' vP.ownBlock) (ho : w'.ownsRow B 3 1 vP' ps.length (ps.map (Value.int .i64))) : HSt w0 w' B go vR vC vP' regs code ps :=
  ⟨h.box.grown hg (own_ne h.pl h.box (by decide)), own_grown h.rg hg (fun k hk he => own_ne2 h.pl h.rg (by decide) k hk he), own_grown h.cd hg (fun k hk he => own_ne2 h.pl h.cd (by decide) k hk he), ho,
    grown_below h.ext hg h.ext.size (fun k hk => Nat.le_trans h.hB (own_base h.pl k hk)), h.hg, h.hB⟩
theorem HSt.code_ (h : HSt w0 wr B go vR vC vP regs code places) {vC' : Value} {cs : List LIns} (hg : wr.grownBy w' vC.ownBlock) (ho : w'.ownsRow B 76 5 vC' cs.length (cs.flatMap insCells)) : HSt w0 (w'.setCell ⟨go, 1, none⟩ vC') B go vR vC' vP regs cs places := by
  have hb := h.box.grown hg (own_ne h.cd h.box (by decide))
  have hr := own_grown h.rg hg (fun k hk he => own_ne2 h.cd h.rg (by decide) k hk he)
  have hp := own_grown h.pl hg (fun k hk he => own_ne2 h.cd h.pl (by decide) k hk he)
  exact ⟨hb.set_ 1 vC', own_far hr (own_ne hr hb (by decide)) _, own_far ho (own_ne ho hb (by decide)) _, own_far hp (own_ne hp hb (by decide)) _,
    (grown_below h.ext hg h.ext.size (fun k hk => Nat.le_trans h.hB (own_base h.cd k hk))).setCell (p := ⟨go, 1, none⟩) (Nat.le_trans h.hB h.hg) _, h.hg, h.hB⟩
theorem HSt.setN {kc cap n : Nat} (h : HSt w0 wr B go vR (.slice (some ⟨kc, 0, none⟩) n cap) vP regs code places) {k : Nat} (hk : k < code.length) (x : Int) :
    HSt w0 (wr.setCell ⟨kc, k * 5 + 4, none⟩ (.int .i64 x)) B go vR (.slice (some ⟨kc, 0, none⟩) n cap) vP regs (code.set k { code.getD k default with n := x }) places := by
  have hkB := own_base h.cd kc rfl
  have hr : some kc ≠ vR.ownBlock := fun e => own_ne2 h.rg h.cd (by decide) kc e.symm rfl
  have hp : some kc ≠ vP.ownBlock := fun e => own_ne2 h.pl h.cd (by decide) kc e.symm rfl
  have hgk : go ≠ kc := fun e => own_ne h.cd h.box (by decide) (by rw [e]; rfl)
  exact ⟨h.box.far (p := ⟨kc, k * 5 + 4, none⟩) hgk _, own_far h.rg hr _, own_setN h.cd hk x, own_far h.pl hp _, h.ext.setCell (p := ⟨kc, k * 5 + 4, none⟩) (Nat.le_trans h.hB hkB) _, h.hg, h.hB⟩
theorem HSt.prog (h : HSt w0 wr B go vR vC vP regs code places) (hr : ∀ r ∈ regs, R64 r.log) (hc : ∀ i ∈ code, i.fits) : ProgAt wr (.agg #[vR, vC]) ⟨regs, code⟩ :=
  ⟨_, _, rfl, regs_own h.rg hr, code_own h.cd hc⟩
end
def relK (f : Nat → Nat) (l : List LIns) (k : Nat) : List LIns := (l.take k).map (reloc f) ++ l.drop k
theorem relK_zero (f : Nat → Nat) (l : List LIns) : relK f l 0 = l := by simp [relK]
theorem relK_all (f : Nat → Nat) (l : List LIns) : relK f l l.length = l.map (reloc f) := by simp [relK]
theorem relK_len (f : Nat → Nat) (l : List LIns) (k : Nat) : (relK f l k).length = l.length := by
  simp only [relK, List.length_append, List.length_map, List.length_take, List.length_drop]
  omega
theorem relK_get (f : Nat → Nat) (l : List LIns) {k : Nat} (hk : k < l.length) : (relK f l k).getD k default = l.getD k default := by
  unfold relK
  rw [List.getD_eq_getElem?_getD, List.getElem?_append_right (by simp; omega)]
  simp [Nat.min_eq_left (Nat.le_of_lt hk), hk]
theorem relK_succ (f : Nat → Nat) (l : List LIns) {k : Nat} (hk : k < l.length) : relK f l (k + 1) = (relK f l k).set k (reloc f (l.getD k default)) := by
  have e : l.drop k = l.getD k default :: l.drop (k + 1) := by
    rw [List.drop_eq_getElem_cons hk]
    simp [hk]
  have hlen : ((l.take k).map (reloc f)).length = k := by simp; omega
  have h1 : l[k] = l.getD k default := by simp [hk]
  unfold relK
  rw [List.take_succ_eq_append_getElem hk, e, List.set_append_right _ _ (by omega), hlen, Nat.sub_self, List.set_cons_zero, List.map_append, List.append_assoc, h1]
  rfl
theorem relK_same (f : Nat → Nat) (l : List LIns) {k : Nat} (hk : k < l.length) (h : ¬ ((l.getD k default).op = 7 ∨ (l.getD k default).op = 8)) : relK f l (k + 1) = relK f l k := by
  rw [relK_succ f l hk, reloc_other h]
  apply List.ext_getElem (by simp)
  intro j h1 h2
  rw [List.getElem_set]
  split
  · rename_i e
    subst e
    have := relK_get f l hk
    rw [List.getD_eq_getElem?_getD, List.getElem?_eq_getElem h2] at this
    exact this.symm
  · rfl
def insV (i : LIns) : Value := .agg #[.int .i64 i.op, .int .i64 i.a, .int .i64 i.b, .int .i64 i.c, .int .i64 i.n]
def putV (op : Int) : Int := if op = 3 ∨ op = 5 then 0 else if op = 4 ∨ op = 6 then 1 else -1
theorem index_i64 {oa : Option Addr} {n b o cap : Nat} (h : 0 < n → oa = some ⟨b, o, none⟩) (W : World) (i : Int) (h0 : 0 ≤ i) (h1 : i < n) :
    (Instr.indexAt 61 (.slice oa n cap) (.int .i64 i)).run Try.prog W = .ok (.pointer (some ⟨b, o + i.toNat, none⟩)) W := by
  obtain rfl := h (by omega)
  have hs : (Try.prog.info? 61).isSome = true := by kernel_rfl
  have hs : (Try.prog.info? 2).map (·.size) = some 1 := by kernel_rfl
  simp [Instr.indexAt, run_underlying Try.underlying61, asIntOf, h0, h1]
  exact addr_add b o _
theorem index_row (W : World) (k n cap : Nat) (i : Int) (h0 : 0 ≤ i) (h1 : i < n) :
    (Instr.indexAt 61 (.slice (some ⟨k, 0, none⟩) n cap) (.int .i64 i)).run Try.prog W = .ok (.pointer (some ⟨k, i.toNat, none⟩)) W := by
  have := index_i64 (oa := some ⟨k, 0, none⟩) (n := n) (b := k) (o := 0) (cap := cap) (fun _ => rfl) W i h0 h1
  simpa using this
theorem infoSee : (Try.prog.info? 68).map (fun i => (i.zero, i.size, i.bytes)) = some (some (.agg #[.int .i64 0, .int .i64 0, .int .i64 0]), 3, 24) := by kernel_rfl
theorem infoI64 : (Try.prog.info? 2).map (fun i => (i.zero, i.size, i.bytes)) = some (some (.int .i64 0), 1, 8) := by kernel_rfl
theorem rPut3_c (i : LIns) (w : World) :
    Calls Try.prog 45 #[insV i] w fun e w' => e = .returned (.int .i64 (putV i.op)) ∧ Ext w w' := by
  obtain ⟨op, a, b, c, n⟩ := i
  unfold insV
  simp only
  by_cases h3 : op = 3
  · subst h3
    go_enter Try.func45, Try.ntmps45
    go_wp2
    go_ret
    exact ⟨ret_i (by decide), (Ext.refl _).alloc _⟩
  by_cases h5 : op = 5
  · subst h5
    go_enter Try.func45, Try.ntmps45
    go_wp2
    go_ret
    exact ⟨ret_i (by decide), (Ext.refl _).alloc _⟩
  by_cases h4 : op = 4
  · subst h4
    go_enter Try.func45, Try.ntmps45
    go_wp2
    go_ret
    exact ⟨ret_i (by decide), (Ext.refl _).alloc _⟩
  by_cases h6 : op = 6
  · subst h6
    go_enter Try.func45, Try.ntmps45
    go_wp2
    go_ret
    exact ⟨ret_i (by decide), (Ext.refl _).alloc _⟩
  have Hv : Hid (putV op = -1) := Lib.hid (by unfold putV; rw [if_neg (by omega), if_neg (by omega)])
  have b3 : (op == 3) = false := by simpa using h3
  have b5 : (op == 5) = false := by simpa using h5
  have b4 : (op == 4) = false := by simpa using h4
  have b6 : (op == 6) = false := by simpa using h6
  clear h3 h5 h4 h6
  go_enter Try.func45, Try.ntmps45
  go_wp2
  go_ret
  exact ⟨ret_i Hv.out.symm, (Ext.refl _).alloc _⟩
set_option maxHeartbeats 1000000 in
theorem rBase_c (p : LProg) (c : Int) (v : Value) (w : World) (hp : ProgAt w v p) (hr : regsOk p.regs = true) (h0 : 0 ≤ c) (h1 : c.toNat < p.regs.length) :
    Calls Try.prog 48 #[v, .int .i64 c] w fun e w' => e = .returned (.int .i64 (baseOf p c.toNat : Nat)) ∧ Ext w w' := by
  obtain ⟨v1, v2, rfl, ⟨hb, oa, cap, b, o, rfl, hc1, hc2, hrow⟩, ⟨-, ob, capb, b2, o2, rfl, -⟩⟩ := hp
  have hlen := regsOk_len hr
  have Hlog := Lib.hid (regsOk_log hr)
  have hix := index_regs (cap := cap) hrow.at_
  have Hrow := Lib.hid hrow
  have Htot := Lib.hid (total_le hr)
  have Hr := Lib.hid hr
  clear hrow hc1 hc2 hb hr
  obtain ⟨m, rfl⟩ : ∃ m : Nat, c = (m : Int) := ⟨c.toNat, by omega⟩
  simp only [Int.toNat_natCast] at *
  go_enter Try.func48, Try.ntmps48
  go_wp2_with fail
  obtain ⟨W, g, hg, hW, hx, bA⟩ := block1 w #[.slice oa p.regs.length cap, .slice ob p.code.length capb] 25
  rw [hW, hg]
  have X := Lib.hid hx
  clear hW hg hx
  go_loopw [5, 6] (fun n i wr => ∃ j : Nat, j ≤ m ∧ i = .int .i64 j ∧ n = .int .i64 (baseOf p j : Nat) ∧ Ext W wr) (fun _ i _ => m - (intOf i).toNat)
  case atStart => exact ⟨0, by omega, rfl, by rw [base_zero]; rfl, Ext.refl _⟩
  case round =>
    obtain ⟨j, hj, rfl, rfl, hE⟩ := hrel
    have bA := bA.ext hE
    have XE := Lib.hid hE
    have X := Lib.hid (X.out.trans hE)
    clear hE
    by_cases hlt : j < m
    · have hjr : j < p.regs.length := by omega
      obtain ⟨e0, e1⟩ := (Hrow.out.ext X.out).reg j hjr
      have Hlg := Lib.hid (Hlog.out _ (getD_mem hjr))
      have Hbs := Lib.hid (base_succ p hjr)
      have hbt := base_le p j
      have hbt2 := base_le p (j + 1)
      have htt := Htot.out
      generalize p.regs.getD j default = r at *
      have hw6 : wordsOf r ≤ 64 := words_le r Hlg.out.2
      have a0 : wr.cell? ⟨g, 0, none⟩ = some (.slice oa p.regs.length cap) := by rw [bA.cell]; rfl
      go_wp2_with fail
      (with_reducible refine (rWords_c r Hlg.out.1 Hlg.out.2 wr).mono ?_)
      rintro e w2 ⟨rfl, hx⟩
      have XE := Lib.hid (XE.out.trans hx)
      clear hx a0 e0 e1
      go_wp2
      go_roundw
      case rel => exact ⟨j + 1, by omega, by go_num, by rw [Hbs.out]; go_num, XE.out⟩
      case measure => first | (simp [intOf]; done) | (simp [intOf]; omega)
    · have hje : j = m := by omega
      subst hje
      have hlt2 : decide ((j : Int) < (j : Int)) = false := by simp
      go_wp2
      go_ret
      exact ⟨rfl, X.out⟩
theorem plainS_nil {l : List Int} {i : LIns} (h : ¬ (i.op = 29 ∨ i.op = 30)) : plainS l i = [] := by unfold plainS; rw [if_neg h]
theorem index_mem' {oa : Option Addr} {n b o cap : Nat} (h : 0 < n → oa = some ⟨b, o, none⟩) (W : World) (i : Int) (h0 : 0 ≤ i) (h1 : i < n) :
    (Instr.indexAt 26 (.slice oa n cap) (.int .i64 i)).run Try.prog W = .ok (.pointer (some ⟨b, o + i.toNat, none⟩)) W := by
  obtain rfl := h (by omega)
  have hs : (Try.prog.info? 61).map (·.size) = some 1 := by kernel_rfl
  simp [Instr.indexAt, run_underlying Try.underlying26, asIntOf, h0, h1]
  exact addr_add b o _
theorem infoRow : (Try.prog.info? 61).map (fun i => (i.zero, i.size, i.bytes)) = some (some (.slice none 0 0), 1, 24) := by kernel_rfl
section
variable {w0 wr w' : World} {U gs k : Nat} {vS vM : Value} {fin value : Int} {steps : Nat} {regs : List Int} {seen : List LSee} {mem : List (List Int)}
end
theorem all64_of {l : List Int} (h : ∀ x ∈ l, R64 x) : All64 l := fun n => by
  by_cases hn : n < l.length
  · have : l.getD n 0 = l[n] := by simp [hn]
    rw [this]; exact h _ (List.getElem_mem hn)
  · rw [List.getD_eq_getElem?_getD, List.getElem?_eq_none (by omega)]
    exact r64_zero
theorem All64.mem {l : List Int} (h : All64 l) : ∀ x ∈ l, R64 x := fun x hx => by
  obtain ⟨n, hn, rfl⟩ := List.getElem_of_mem hx
  have := h n
  simpa [hn] using this
theorem word_parts {p : LProg} {i : LIns} (hok : insOk p 10 i = true) (h : i.op = 3 ∨ i.op = 4 ∨ i.op = 5 ∨ i.op = 6) : okIn 10 i.a = true ∧ okIn 10 i.b = true ∧ 0 ≤ i.c ∧ i.c.toNat < p.regs.length := by
  have hr : (isPut i || isTake i) = true := by unfold isPut isTake; rcases h with h | h | h | h <;> simp [h]
  have hc := region_there hok hr
  refine ⟨?_, ?_, hc⟩ <;> (unfold insOk at hok; rcases h with h | h | h | h <;> simp [h, okIn] at hok ⊢ <;> omega)
structure Turn (S : Nat → Prop) (w w' : World) : Prop where
  os : w'.os = w.os
  tape : w'.tape = w.tape
  output : w'.output = w.output
  size : w.heap.size ≤ w'.heap.size
  block : ∀ j, j < w.heap.size → ¬ S j → w'.heap[j]? = w.heap[j]?
section
variable {S S' : Nat → Prop} {w w' w'' : World}
theorem Turn.ofExt (h : Ext w w') : Turn S w w' := ⟨h.os, h.tape, h.output, h.size, fun j hj _ => Below.block h j hj⟩
theorem Turn.refl (w : World) : Turn S w w := Turn.ofExt (Ext.refl w)
theorem Turn.trans (h : Turn S w w') (k : Turn S' w' w'') (hs : ∀ j, j < w.heap.size → S' j → S j) : Turn S w w'' :=
  ⟨k.os.trans h.os, k.tape.trans h.tape, k.output.trans h.output, Nat.le_trans h.size k.size, fun j hj hn => (k.block j (Nat.lt_of_lt_of_le hj h.size) (fun e => hn (hs j hj e))).trans (h.block j hj hn)⟩
theorem Turn.ext (h : Turn S w w') (k : Ext w' w'') : Turn S w w'' := h.trans (Turn.ofExt (S := S) k) (fun _ _ e => e)
theorem Turn.grown {row : Option Nat} (h : w.grownBy w' row) : Turn (fun j => row = some j) w w' := ⟨h.os, h.tape, h.output, h.size, fun j hj hn => h.block j hj (fun e => hn e.symm)⟩
theorem Turn.set (w : World) (p : Addr) (u : Value) : Turn (fun j => j = p.block) w (w.setCell p u) := ⟨rfl, rfl, rfl, by simp [World.setCell], fun j hj hn => Below.heap_setCell w p u j hn⟩
theorem Turn.mono (h : Turn S w w') (hs : ∀ j, S j → S' j) : Turn S' w w' := ⟨h.os, h.tape, h.output, h.size, fun j hj hn => h.block j hj (fun e => hn (hs j e))⟩
theorem Turn.below {B : Nat} (h : Turn S w w') (hB : B ≤ w.heap.size) (hs : ∀ j, S j → B ≤ j) : Below B w w' :=
  ⟨h.os, h.tape, h.output, h.size, fun j hj => h.block j (Nat.lt_of_lt_of_le hj hB) (fun e => by have := hs j e; omega)⟩
theorem Blk.turn {g : Nat} {t : TypeId} {cs : Array Value} (h : Blk w g t cs) (ht : Turn S w w') (hn : ¬ S g) : Blk w' g t cs := (ht.block g h.lt hn).trans h
end
section
variable {vR vC vS vM vW vB u : Value} {fin value x : Int} {steps at_ : Nat} {regs : List Int}
end
section
variable {w w' : World} {B g : Nat} {vR vC vM vB vS vW : Value} {bases : List Int} {M : Mach}
end
def knCells (k : LKn) : List Value := [.int .i64 k.bits, .bool k.sec]
def knV (k : LKn) : Value := .agg #[.int .i64 k.bits, .bool k.sec]
def stV (s : KSt) : Array Value := (s.flatMap knCells).toArray
theorem kn_size (s : KSt) : (s.flatMap knCells).length = s.length * 2 := by
  induction s with
  | nil => rfl
  | cons k s ih => rw [List.flatMap_cons, List.length_append, ih, List.length_cons]; simp [knCells]; omega
theorem stV_size {s : KSt} (h : s.length = 8) : (stV s).size = 16 := by
  unfold stV
  rw [List.size_toArray, kn_size, h]
theorem kn_get : ∀ (s : KSt) (a : Nat), a < s.length → (s.flatMap knCells)[a * 2]? = some (.int .i64 (s.getD a default).bits) ∧ (s.flatMap knCells)[a * 2 + 1]? = some (.bool (s.getD a default).sec)
  | [], a, h => by simp at h
  | k :: s, 0, h => by simp [knCells]
  | k :: s, a + 1, h => by
    have := kn_get s a (by simpa using h)
    rw [List.flatMap_cons, show (a + 1) * 2 = a * 2 + 2 by omega, show a * 2 + 2 + 1 = a * 2 + 1 + 2 by omega]
    simp only [knCells, List.cons_append, List.nil_append, List.getElem?_cons_succ, List.getD_cons_succ]
    exact this
theorem stV_get {s : KSt} (h : s.length = 8) {a : Int} (ha : a.toNat < 8) : (stV s)[a.toNat * 2]? = some (.int .i64 (kg s a).bits) ∧ (stV s)[a.toNat * 2 + 1]? = some (.bool (kg s a).sec) := by
  have := kn_get s a.toNat (by omega)
  unfold stV kg
  simpa using this
theorem kn_set : ∀ (s : KSt) (a : Nat) (k : LKn), a < s.length → ((s.flatMap knCells).set (a * 2) (.int .i64 k.bits)).set (a * 2 + 1) (.bool k.sec) = (s.set a k).flatMap knCells
  | [], a, k, h => by simp at h
  | x :: s, 0, k, h => by simp [knCells]
  | x :: s, a + 1, k, h => by
    have := kn_set s a k (by simpa using h)
    rw [List.flatMap_cons, show (a + 1) * 2 = a * 2 + 2 by omega, show a * 2 + 2 + 1 = a * 2 + 1 + 2 by omega, List.set_cons_succ, List.flatMap_cons]
    simp only [knCells, List.cons_append, List.nil_append, List.set_cons_succ]
    rw [this]
theorem stV_set {s : KSt} (h : s.length = 8) {a : Int} (ha : a.toNat < 8) (k : LKn) : ((stV s).setIfInBounds (a.toNat * 2) (.int .i64 k.bits)).setIfInBounds (a.toNat * 2 + 1) (.bool k.sec) = stV (kset s a k) := by
  have := kn_set s a.toNat k (by omega)
  unfold stV kset
  rw [← this]
  simp
theorem stV_one (s : KSt) : (stV s).all (·.oneCell') = true := by
  unfold stV
  rw [Array.all_eq_true']
  intro u hu
  simp only [List.mem_toArray, List.mem_flatMap, knCells, List.mem_cons, List.not_mem_nil, or_false] at hu
  obtain ⟨k, -, rfl | rfl⟩ := hu <;> rfl
section
variable {w w' : World} {k : Nat} {s : KSt}
theorem st_cell (h : Blk w k 123 (stV s)) (hl : s.length = 8) {a : Int} (ha : okIn 8 a = true) :
    (w.cell? ⟨k, a.toNat * 2, none⟩ = some (.int .i64 (kg s a).bits) ∧ w.frozen? ⟨k, a.toNat * 2, none⟩ = false) ∧ (w.cell? ⟨k, a.toNat * 2 + 1, none⟩ = some (.bool (kg s a).sec) ∧ w.frozen? ⟨k, a.toNat * 2 + 1, none⟩ = false) := by
  obtain ⟨h0, h1⟩ := okIn_iff.1 ha
  obtain ⟨g1, g2⟩ := stV_get hl (a := a) (by omega)
  exact ⟨⟨by rw [h.cell, g1], h.frozen _⟩, ⟨by rw [h.cell, g2], h.frozen _⟩⟩
theorem st_put (h : Blk w k 123 (stV s)) (hl : s.length = 8) {a : Int} (ha : okIn 8 a = true) (x : LKn) :
    Blk ((w.setCell ⟨k, a.toNat * 2, none⟩ (.int .i64 x.bits)).setCell ⟨k, a.toNat * 2 + 1, none⟩ (.bool x.sec)) k 123 (stV (kset s a x)) := by
  obtain ⟨h0, h1⟩ := okIn_iff.1 ha
  rw [← stV_set hl (by omega) x]
  exact (h.set_ _ _).set_ _ _
end
def RowAt (w : World) (B ks n : Nat) (T : Tab) : Prop :=
  ∃ R : Array Value, Blk w ks 124 R ∧ R.size = n ∧ ∀ j, j < n → match tg T j with
    | none => R[j]? = some (.pointer none)
    | some s => ∃ k, R[j]? = some (.pointer (some ⟨k, 0, none⟩)) ∧ B ≤ k ∧ Blk w k 123 (stV s)
theorem RowAt.ext {w w' : World} {B ks n : Nat} {T : Tab} (h : RowAt w B ks n T) (hx : Ext w w') : RowAt w' B ks n T := by
  obtain ⟨R, h1, h2, h3⟩ := h
  refine ⟨R, h1.ext hx, h2, fun j hj => ?_⟩
  have := h3 j hj
  cases ht : tg T j with
  | none => rw [ht] at this; exact this
  | some s =>
    rw [ht] at this
    obtain ⟨k, e1, e2, e3⟩ := this
    exact ⟨k, e1, e2, e3.ext hx⟩
theorem RowAt.put {w : World} {B ks n k at_ : Nat} {T : Tab} {s : KSt} (h : RowAt w B ks n T) (hT : T.length = n) (hat : at_ < n) (hB : B ≤ k) (hk : Blk w k 123 (stV s)) :
    RowAt (w.setCell ⟨ks, at_, none⟩ (.pointer (some ⟨k, 0, none⟩))) B ks n (T.set at_ (some s)) := by
  obtain ⟨R, h1, h2, h3⟩ := h
  refine ⟨_, h1.set_ at_ _, by simpa using h2, fun j hj => ?_⟩
  have far : ∀ {k' : Nat} {u : KSt}, Blk w k' 123 (stV u) → Blk (w.setCell ⟨ks, at_, none⟩ (.pointer (some ⟨k, 0, none⟩))) k' 123 (stV u) := fun hb => hb.far (p := ⟨ks, at_, none⟩) (Blk.ne_ hb h1 (by decide)) _
  rw [tg_set]
  by_cases e : at_ = j
  · subst e
    rw [if_pos ⟨rfl, by omega⟩]
    exact ⟨k, by simp [h2, hat], hB, far hk⟩
  · rw [if_neg (by omega)]
    have := h3 j hj
    cases ht : tg T j with
    | none => rw [ht] at this; simpa [Array.getElem?_setIfInBounds, e] using this
    | some u =>
      rw [ht] at this
      obtain ⟨k', e1, e2, e3⟩ := this
      exact ⟨k', by simpa [Array.getElem?_setIfInBounds, e] using e1, e2, far e3⟩
theorem RowAt.far {w : World} {B ks n : Nat} {T : Tab} (h : RowAt w B ks n T) {p : Addr} {t : TypeId} {cs : Array Value} (hp : Blk w p.block t cs) (h1 : t ≠ 124) (h2 : t ≠ 123) (u : Value) : RowAt (w.setCell p u) B ks n T := by
  obtain ⟨R, e1, e2, e3⟩ := h
  refine ⟨R, e1.far (Blk.ne_ e1 hp (fun e => h1 e.symm)) u, e2, fun j hj => ?_⟩
  have := e3 j hj
  cases ht : tg T j with
  | none => rw [ht] at this; exact this
  | some s =>
    rw [ht] at this
    obtain ⟨k, f1, f2, f3⟩ := this
    exact ⟨k, f1, f2, f3.far (Blk.ne_ f3 hp (fun e => h2 e.symm)) u⟩
theorem RowAt.grown {w w' : World} {B ks n m : Nat} {T : Tab} {D : Nat} {v : Value} {xs : List Value} (h : RowAt w B ks n T) (hu : w.ownsRow D 3 1 v m xs) (hg : w.grownBy w' v.ownBlock) : RowAt w' B ks n T := by
  obtain ⟨R, e1, e2, e3⟩ := h
  refine ⟨R, e1.grown hg (own_ne hu e1 (by decide)), e2, fun j hj => ?_⟩
  have := e3 j hj
  cases ht : tg T j with
  | none => rw [ht] at this; exact this
  | some s =>
    rw [ht] at this
    obtain ⟨k, f1, f2, f3⟩ := this
    exact ⟨k, f1, f2, f3.grown hg (own_ne hu f3 (by decide))⟩
structure CSt (w : World) (B g ks : Nat) (vR vC vK : Value) (p : LProg) (T : Tab) (wk : List Int) : Prop where
  box : Blk w g 120 #[vR, vC, .slice (some ⟨ks, 0, none⟩) p.code.length p.code.length, vK]
  row : RowAt w B ks p.code.length T
  wk : w.ownsRow B 3 1 vK wk.length (wk.map (Value.int .i64))
  tok : Tok p T
  hg : B ≤ g
  hk : B ≤ ks
section
variable {w w' : World} {B g ks : Nat} {vR vC vK : Value} {p : LProg} {T : Tab} {wk : List Int}
theorem CSt.ext (h : CSt w B g ks vR vC vK p T wk) (hx : Ext w w') : CSt w' B g ks vR vC vK p T wk := ⟨h.box.ext hx, h.row.ext hx, own_ext h.wk hx, h.tok, h.hg, h.hk⟩
theorem CSt.size (h : CSt w B g ks vR vC vK p T wk) : B ≤ w.heap.size := by have := h.box.lt; have := h.hg; omega
theorem CSt.cells (h : CSt w B g ks vR vC vK p T wk) : (w.cell? ⟨g, 0, none⟩ = some vR ∧ w.frozen? ⟨g, 0, none⟩ = false) ∧ (w.cell? ⟨g, 1, none⟩ = some vC ∧ w.frozen? ⟨g, 1, none⟩ = false) ∧
    (w.cell? ⟨g, 2, none⟩ = some (.slice (some ⟨ks, 0, none⟩) p.code.length p.code.length) ∧ w.frozen? ⟨g, 2, none⟩ = false) ∧ (w.cell? ⟨g, 3, none⟩ = some vK ∧ w.frozen? ⟨g, 3, none⟩ = false) := by
  refine ⟨⟨?_, h.box.frozen _⟩, ⟨?_, h.box.frozen _⟩, ⟨?_, h.box.frozen _⟩, ⟨?_, h.box.frozen _⟩⟩ <;> (rw [h.box.cell]; rfl)
theorem CSt.put (h : CSt w B g ks vR vC vK p T wk) {k at_ : Nat} {s : KSt} (hat : at_ < p.code.length) (hB : B ≤ k) (hk : Blk w k 123 (stV s)) (hs : Sok s) :
    CSt (w.setCell ⟨ks, at_, none⟩ (.pointer (some ⟨k, 0, none⟩))) B g ks vR vC vK p (T.set at_ (some s)) wk := by
  obtain ⟨R, r1, r2, r3⟩ := h.row
  refine ⟨h.box.far (p := ⟨ks, at_, none⟩) (Blk.ne_ h.box r1 (by decide)) _, h.row.put h.tok.len hat hB hk, own_far h.wk (own_ne h.wk r1 (by decide)) _, ⟨by simpa using h.tok.len, fun j u hu => ?_⟩, h.hg, h.hk⟩
  rw [tg_set] at hu
  split at hu
  · simp only [Option.some.injEq] at hu; subst hu; exact hs
  · exact h.tok.ok j u hu
theorem CSt.work (h : CSt w B g ks vR vC vK p T wk) {vK' : Value} {wk' : List Int} (hg : w.grownBy w' vK.ownBlock) (ho : w'.ownsRow B 3 1 vK' wk'.length (wk'.map (Value.int .i64))) :
    CSt (w'.setCell ⟨g, 3, none⟩ vK') B g ks vR vC vK' p T wk' := by
  have hb := h.box.grown hg (own_ne h.wk h.box (by decide))
  have hne : some g ≠ vK'.ownBlock := own_ne ho hb (by decide)
  exact ⟨hb.set_ 3 vK', (h.row.grown h.wk hg).far (p := ⟨g, 3, none⟩) hb (by decide) (by decide) _, own_far ho hne _, h.tok, h.hg, h.hk⟩
theorem CSt.row_at (h : CSt w B g ks vR vC vK p T wk) {j : Nat} (hj : j < p.code.length) : (tg T j = none → w.cell? ⟨ks, j, none⟩ = some (.pointer none) ∧ w.frozen? ⟨ks, j, none⟩ = false) ∧
    (∀ s, tg T j = some s → ∃ k, (w.cell? ⟨ks, j, none⟩ = some (.pointer (some ⟨k, 0, none⟩)) ∧ w.frozen? ⟨ks, j, none⟩ = false) ∧ B ≤ k ∧ Blk w k 123 (stV s)) := by
  obtain ⟨R, r1, r2, r3⟩ := h.row
  have := r3 j hj
  refine ⟨fun ht => ?_, fun s ht => ?_⟩
  · rw [ht] at this
    exact ⟨by rw [r1.cell, this], r1.frozen _⟩
  · rw [ht] at this
    obtain ⟨k, e1, e2, e3⟩ := this
    exact ⟨k, ⟨by rw [r1.cell, e1], r1.frozen _⟩, e2, e3⟩
end
def leadT (p : LProg) (T : Tab) (at_ : Nat) (s : KSt) : Tab := if p.code.length ≤ at_ then T else joinT T (at_, s)
def leadW (p : LProg) (T : Tab) (wk : List Int) (at_ : Nat) (s : KSt) : List Int :=
  if p.code.length ≤ at_ then wk else match tg T at_ with
    | none => wk ++ [(at_ : Int)]
    | some t => if sjoin s t = t then wk else wk ++ [(at_ : Int)]
end Go.Proofs.Ytiiollmbogojoaa

namespace Go.Proofs.Ytiiollmbogojoaa
open Go.ChangeShapes Go.WideShapes Go.ChangeAt Go.RowKit
theorem infoState' : (Try.prog.info? 123).map (·.size) = some 16 := by kernel_rfl
theorem exec_load_st {o : Oper} {a : Act} {x : Operand} {w : World} {g : Nat} {s : KSt} (ho : o.op = .load 123 x) (hx : a.eval x = .pointer (some ⟨g, 0, none⟩)) (hb : Blk w g 123 (stV s)) (hl : s.length = 8) :
    (execOp a.eval o).run Try.prog w = .ok (.value (.agg (stV s))) w := by
  have h := run_loadVar_mid (P := Try.prog) w g 0 123 (stV s).toList _ (hb.range 0 _ (fun j v hv => by simpa using hv)) Try.underlying123 rfl (by rw [Array.length_toList, stV_size hl]; exact infoState')
  unfold execOp
  simp only [ho, hx, Instr.loadAt, Instr.sureAddr, Sem.run_bind, Sem.run_pure, Result.andThen_ok, h, Array.toArray_toList]
section
variable {ops : Array Oper} {W : World} {i0 k : Nat} {mk : Nat → Value} {T : TypeId} {cs : Array Value} {Qa : Act → Prop} {o : Oper} {rest : List Oper} {a : Act} {g : Nat} {s : KSt} {hs : List Nat}
theorem calm_load_st (hk : k ≠ i0) (hw : Region.wanted o (yielded ops a.tmps) = true) (ho : ∃ x, o.op = .load 123 x ∧ a.eval x = .pointer (some ⟨g, 0, none⟩)) (hb : Blk W g 123 (stV s)) (hl : s.length = 8)
    (h : calmAll Try.prog ops W i0 mk T cs Qa (k + 1) rest (a.put o.dst (.agg (stV s)))) : calmAll Try.prog ops W i0 mk T cs Qa k (o :: rest) a :=
  by
  obtain ⟨x, ho, hx⟩ := ho
  exact calm_value hk hw ⟨_, fun _ hE => exec_load_st ho hx (hb.ext hE) hl, h⟩
end
end Go.Proofs.Ytiiollmbogojoaa

namespace Go.Proofs.Ytiiollmbogojoaa
open Go.ChangeShapes Go.WideShapes Go.ChangeAt Go.RowKit
set_option linter.unusedVariables false
set_option linter.unusedSimpArgs false
def KnAt (w : World) (B : Nat) (v : Value) (s : KSt) : Prop :=
  s.length = 8 ∧ ∃ b cap R, v = .slice (some ⟨b, 0, none⟩) 8 cap ∧ 8 ≤ cap ∧ cap ≤ maxLen ∧ B ≤ b ∧ Blk w b 82 R ∧ ∀ j, j < 16 → R[j]? = (stV s)[j]?
theorem KnAt.ext {w w' : World} {B : Nat} {v : Value} {s : KSt} (h : KnAt w B v s) (hx : Ext w w') : KnAt w' B v s := by
  obtain ⟨h0, b, cap, R, h1, h2, h3, h4, h5, h6⟩ := h
  exact ⟨h0, b, cap, R, h1, h2, h3, h4, h5.ext hx, h6⟩
theorem KnAt.mono {w : World} {B B' : Nat} {v : Value} {s : KSt} (h : KnAt w B v s) (hB : B' ≤ B) : KnAt w B' v s := by
  obtain ⟨h0, b, cap, R, h1, h2, h3, h4, h5, h6⟩ := h
  exact ⟨h0, b, cap, R, h1, h2, h3, by omega, h5, h6⟩
theorem KnAt.own {w : World} {B : Nat} {v : Value} {s : KSt} (hl : s.length = 8) (h : w.ownsRow B 82 2 v 8 (s.flatMap knCells)) : KnAt w B v s := by
  refine ⟨hl, ?_⟩
  obtain ⟨h0, ⟨-, h1⟩ | ⟨g, cap, cur, rfl, h1, h2, h3, h4, h5, h6⟩⟩ := h
  · omega
  · refine ⟨g, cap, cur, rfl, h3, h4, h1, h2, fun j hj => ?_⟩
    unfold stV
    rw [← h6]
    simp only [List.getElem?_toArray]
    rw [List.getElem?_take_of_lt (by omega)]
    simp
theorem KnAt.form {w : World} {B : Nat} {v : Value} {s : KSt} (h : KnAt w B v s) : ∃ b cap, v = .slice (some ⟨b, 0, none⟩) 8 cap ∧ 8 ≤ cap ∧ cap ≤ maxLen ∧ B ≤ b := by
  obtain ⟨h0, b, cap, R, h1, h2, h3, h4, h5, h6⟩ := h
  exact ⟨b, cap, h1, h2, h3, h4⟩
section
variable {w : World} {B b cap : Nat} {s : KSt}
theorem KnAt.cell (h : KnAt w B (.slice (some ⟨b, 0, none⟩) 8 cap) s) {a : Int} (ha : okIn 8 a = true) :
    (w.cell? ⟨b, a.toNat * 2, none⟩ = some (.int .i64 (kg s a).bits) ∧ w.frozen? ⟨b, a.toNat * 2, none⟩ = false) ∧ (w.cell? ⟨b, a.toNat * 2 + 1, none⟩ = some (.bool (kg s a).sec) ∧ w.frozen? ⟨b, a.toNat * 2 + 1, none⟩ = false) := by
  obtain ⟨h0, b', cap', R, h1, h2, h3, h4, h5, h6⟩ := h
  simp only [Value.slice.injEq, Option.some.injEq, Addr.mk.injEq, and_true, true_and] at h1
  obtain ⟨rfl, rfl⟩ := h1
  obtain ⟨k0, k1⟩ := okIn_iff.1 ha
  obtain ⟨g1, g2⟩ := stV_get h0 (a := a) (by omega)
  exact ⟨⟨by rw [h5.cell, h6 _ (by omega), g1], h5.frozen _⟩, ⟨by rw [h5.cell, h6 _ (by omega), g2], h5.frozen _⟩⟩
theorem KnAt.put (h : KnAt w B (.slice (some ⟨b, 0, none⟩) 8 cap) s) {a : Int} (ha : okIn 8 a = true) (x : LKn) :
    KnAt ((w.setCell ⟨b, a.toNat * 2, none⟩ (.int .i64 x.bits)).setCell ⟨b, a.toNat * 2 + 1, none⟩ (.bool x.sec)) B (.slice (some ⟨b, 0, none⟩) 8 cap) (kset s a x) := by
  obtain ⟨h0, b', cap', R, h1, h2, h3, h4, h5, h6⟩ := h
  simp only [Value.slice.injEq, Option.some.injEq, Addr.mk.injEq, and_true, true_and] at h1
  obtain ⟨rfl, rfl⟩ := h1
  obtain ⟨k0, k1⟩ := okIn_iff.1 ha
  have hs := stV_size h0
  have hR : 16 ≤ R.size := by
    have := h6 15 (by omega)
    rcases Nat.lt_or_ge 15 R.size with h | h
    · omega
    · rw [Array.getElem?_eq_none h, Array.getElem?_eq_getElem (by omega)] at this
      cases this
  refine ⟨by simpa [kset] using h0, b, cap, _, rfl, h2, h3, h4, (h5.set_ _ _).set_ _ _, fun j hj => ?_⟩
  rw [← stV_set h0 (by omega) x]
  rw [Array.getElem?_setIfInBounds, Array.getElem?_setIfInBounds, Array.getElem?_setIfInBounds, Array.getElem?_setIfInBounds]
  simp only [Array.size_setIfInBounds]
  repeat' split
  all_goals first | rfl | omega | exact h6 j hj
theorem KnAt.far {v : Value} (h : KnAt w B v s) {p : Addr} {t : TypeId} {cs : Array Value} (hp : Blk w p.block t cs) (h1 : t ≠ 82) (u : Value) : KnAt (w.setCell p u) B v s := by
  obtain ⟨h0, b', cap', R, e1, h2, h3, h4, h5, h6⟩ := h
  exact ⟨h0, b', cap', R, e1, h2, h3, h4, h5.far (Blk.ne_ h5 hp (fun e => h1 e.symm)) u, h6⟩
end
theorem index_kn (b cap : Nat) (W : World) (i : Int) (h0 : 0 ≤ i) (h1 : i < 8) :
    (Instr.indexAt 72 (.slice (some ⟨b, 0, none⟩) 8 cap) (.int .i64 i)).run Try.prog W = .ok (.pointer (some ⟨b, i.toNat * 2, none⟩)) W := by
  have hs : (Try.prog.info? 82).map (·.size) = some 2 := by kernel_rfl
  simp [Instr.indexAt, run_underlying Try.underlying72, asIntOf, h0, h1]
  have := addr_add b 0 (i.toNat * 2)
  simpa using this
def LeadsAt (w : World) (B : Nat) (v : Value) (l : List (Nat × KSt)) : Prop :=
  ∃ oa cap b, v = .slice oa l.length cap ∧ l.length ≤ cap ∧ cap ≤ maxLen ∧ B ≤ b ∧ (0 < l.length → oa = some ⟨b, 0, none⟩) ∧ ∃ vs : Nat → Value, ∀ k, k < l.length →
    w.cell? ⟨b, k * 3, none⟩ = some (.int .i64 ((l.getD k default).1 : Int)) ∧ w.cell? ⟨b, k * 3 + 1, none⟩ = some (.bool true) ∧ w.cell? ⟨b, k * 3 + 2, none⟩ = some (vs k) ∧ KnAt w B (vs k) (l.getD k default).2
theorem LeadsAt.ext {w w' : World} {B : Nat} {v : Value} {l : List (Nat × KSt)} (h : LeadsAt w B v l) (hx : Ext w w') : LeadsAt w' B v l := by
  obtain ⟨oa, cap, b, h1, h2, h3, hB, h4, vs, h5⟩ := h
  refine ⟨oa, cap, b, h1, h2, h3, hB, h4, vs, fun k hk => ?_⟩
  obtain ⟨e1, e2, e3, e4⟩ := h5 k hk
  exact ⟨hx.kept e1, hx.kept e2, hx.kept e3, e4.ext hx⟩
theorem KnAt.low {w : World} {B : Nat} {v : Value} {s : KSt} (h : KnAt w B v s) {p : Addr} (hp : p.block < B) (u : Value) : KnAt (w.setCell p u) B v s := by
  obtain ⟨h0, b', cap', R, e1, h2, h3, h4, h5, h6⟩ := h
  exact ⟨h0, b', cap', R, e1, h2, h3, h4, h5.far (by omega) u, h6⟩
theorem LeadsAt.low {w : World} {B : Nat} {v : Value} {l : List (Nat × KSt)} (h : LeadsAt w B v l) {p : Addr} (hp : p.block < B) (u : Value) : LeadsAt (w.setCell p u) B v l := by
  obtain ⟨oa, cap, b, h1, h2, h3, hB, h4, vs, h5⟩ := h
  refine ⟨oa, cap, b, h1, h2, h3, hB, h4, vs, fun k hk => ?_⟩
  obtain ⟨e1, e2, e3, e4⟩ := h5 k hk
  have hne : ∀ o : Nat, p ≠ ⟨b, o, none⟩ := fun o e => by rw [e] at hp; simp only at hp; omega
  exact ⟨by rw [World.cell?_setCell_other _ _ _ _ (hne _)]; exact e1, by rw [World.cell?_setCell_other _ _ _ _ (hne _)]; exact e2, by rw [World.cell?_setCell_other _ _ _ _ (hne _)]; exact e3, e4.low hp u⟩
def TabAt (w : World) (ks n : Nat) (T : Tab) : Prop :=
  ∃ R : Array Value, Blk w ks 74 R ∧ R.size = n * 2 ∧ ∀ j, j < n → match tg T j with
    | none => R[j * 2]? = some (.bool false) ∧ R[j * 2 + 1]? = some (.slice none 0 0)
    | some s => R[j * 2]? = some (.bool true) ∧ ∃ v, R[j * 2 + 1]? = some v ∧ KnAt w 0 v s
theorem TabAt.ext {w w' : World} {ks n : Nat} {T : Tab} (h : TabAt w ks n T) (hx : Ext w w') : TabAt w' ks n T := by
  obtain ⟨R, h1, h2, h3⟩ := h
  refine ⟨R, h1.ext hx, h2, fun j hj => ?_⟩
  have := h3 j hj
  cases ht : tg T j with
  | none => rw [ht] at this; exact this
  | some s =>
    rw [ht] at this
    obtain ⟨e1, v, e2, e3⟩ := this
    exact ⟨e1, v, e2, e3.ext hx⟩
theorem TabAt.put {w : World} {ks n at_ : Nat} {T : Tab} {s : KSt} {v : Value} (h : TabAt w ks n T) (hT : T.length = n) (hat : at_ < n) (hk : KnAt w 0 v s) :
    TabAt ((w.setCell ⟨ks, at_ * 2, none⟩ (.bool true)).setCell ⟨ks, at_ * 2 + 1, none⟩ v) ks n (T.set at_ (some s)) := by
  obtain ⟨R, h1, h2, h3⟩ := h
  have far : ∀ {v' : Value} {u : KSt}, KnAt w 0 v' u → KnAt ((w.setCell ⟨ks, at_ * 2, none⟩ (.bool true)).setCell ⟨ks, at_ * 2 + 1, none⟩ v) 0 v' u := fun hb =>
    (hb.far (p := ⟨ks, at_ * 2, none⟩) h1 (by decide) _).far (p := ⟨ks, at_ * 2 + 1, none⟩) (h1.set_ _ _) (by decide) _
  refine ⟨_, (h1.set_ _ _).set_ _ _, by simpa using h2, fun j hj => ?_⟩
  rw [tg_set]
  by_cases e : at_ = j
  · subst e
    rw [if_pos ⟨rfl, by omega⟩]
    refine ⟨?_, v, ?_, far hk⟩
    · rw [Array.getElem?_setIfInBounds_ne (by omega), Array.getElem?_setIfInBounds_self_of_lt (by omega)]
    · rw [Array.getElem?_setIfInBounds_self_of_lt (by simp; omega)]
  · rw [if_neg (by omega)]
    have := h3 j hj
    cases ht : tg T j with
    | none =>
      rw [ht] at this
      rw [Array.getElem?_setIfInBounds_ne (by omega), Array.getElem?_setIfInBounds_ne (by omega), Array.getElem?_setIfInBounds_ne (by omega), Array.getElem?_setIfInBounds_ne (by omega)]
      exact this
    | some u =>
      rw [ht] at this
      obtain ⟨e1, v', e2, e3⟩ := this
      refine ⟨?_, v', ?_, far e3⟩
      · rw [Array.getElem?_setIfInBounds_ne (by omega), Array.getElem?_setIfInBounds_ne (by omega)]; exact e1
      · rw [Array.getElem?_setIfInBounds_ne (by omega), Array.getElem?_setIfInBounds_ne (by omega)]; exact e2
def ten : Array Value := regV (List.replicate 10 0)
theorem make_ten (W : World) : (Instr.makeSlice 61 (.int .i64 10) (.int .i64 10)).run Try.prog W = .ok (.slice (some ⟨W.heap.size, 0, none⟩) 10 10) (W.alloc (.cells ten 2)) := by kernel_rfl
theorem index_see {oa : Option Addr} {n b o cap : Nat} (h : 0 < n → oa = some ⟨b, o, none⟩) (W : World) (i : Int) (h0 : 0 ≤ i) (h1 : i < n) :
    (Instr.indexAt 27 (.slice oa n cap) (.int .i64 i)).run Try.prog W = .ok (.pointer (some ⟨b, o + i.toNat * 3, none⟩)) W := by
  obtain rfl := h (by omega)
  have hs : (Try.prog.info? 68).map (·.size) = some 3 := by kernel_rfl
  simp [Instr.indexAt, run_underlying Try.underlying27, asIntOf, h0, h1]
  exact addr_add b o _
theorem see_ne (a b c : Int) (w : World) : (binOp .neq 68 (.agg #[.int .i64 a, .int .i64 b, .int .i64 c]) (.agg #[.int .i64 a, .int .i64 b, .int .i64 c])).run Try.prog w = .ok (.bool false) w := by
  go_simp
set_option maxHeartbeats 2000000 in
theorem rSeenEq_c (l : List LSee) (v u : Value) (w : World) (hv : SeenAt w v l) (hu : SeenAt w u l) :
    Calls Try.prog 31 #[v, u] w fun e w' => e = .returned (.bool true) ∧ Ext w w' := by
  obtain ⟨oa, cap, b, o, rfl, hc1, hc2, hrow⟩ := hv
  obtain ⟨ob, capb, b2, o2, rfl, hd1, hd2, hrow2⟩ := hu
  have hlen := len_bd hc1 hc2
  have hix := index_see (cap := cap) hrow.at_
  have hix2 := index_see (cap := capb) hrow2.at_
  have Hrow := Lib.hid hrow
  have Hrow2 := Lib.hid hrow2
  have hne := see_ne
  have hq1 : ((l.length : Int) != (l.length : Int)) = false := by simp
  clear hrow hrow2 hc1 hc2 hd1 hd2
  go_enter Try.func31, Try.ntmps31
  go_wp2_with fail
  go_loopw [5] (fun i wr => ∃ j : Nat, j ≤ l.length ∧ i = .int .i64 j ∧ Ext w wr) (fun i _ => l.length - (intOf i).toNat)
  case atStart => exact ⟨0, by omega, rfl, Ext.refl _⟩
  case round =>
    obtain ⟨j, hj, rfl, hE⟩ := hrel
    have X := Lib.hid hE
    clear hE
    by_cases hlt : j < l.length
    · obtain ⟨e0, e1, e2⟩ := (Hrow.out.ext X.out).see j hlt
      obtain ⟨f0, f1, f2⟩ := (Hrow2.out.ext X.out).see j hlt
      generalize l.getD j default = x at *
      have k0 : ∀ W, Ext wr W → W.cell? ⟨b, o + j * 3, none⟩ = some (.int .i64 x.kind) := fun _ h => h.kept e0
      have k1 : ∀ W, Ext wr W → W.cell? ⟨b, o + j * 3 + 1, none⟩ = some (.int .i64 x.a) := fun _ h => h.kept e1
      have k2 : ∀ W, Ext wr W → W.cell? ⟨b, o + j * 3 + 2, none⟩ = some (.int .i64 x.b) := fun _ h => h.kept e2
      have l0 : ∀ W, Ext wr W → W.cell? ⟨b2, o2 + j * 3, none⟩ = some (.int .i64 x.kind) := fun _ h => h.kept f0
      have l1 : ∀ W, Ext wr W → W.cell? ⟨b2, o2 + j * 3 + 1, none⟩ = some (.int .i64 x.a) := fun _ h => h.kept f1
      have l2 : ∀ W, Ext wr W → W.cell? ⟨b2, o2 + j * 3 + 2, none⟩ = some (.int .i64 x.b) := fun _ h => h.kept f2
      clear e0 e1 e2 f0 f1 f2
      go_upto_region 6 with fail
      refine region_calm 9 (by kernel_rfl) (by kernel_rfl) ?_
      simp only [List.take_succ_cons, List.take_zero, List.drop_succ_cons, List.drop_zero]
      repeat (first | (refine calm_fresh ?_ ?_ (fun wc hE => ?_) ?_; (decide); rfl; (focus (go_simp; done)); go_simp) | (refine calm_value ?_ ?_ ?_; (decide); (first | rfl | (focus (go_simp; done))); apply Exists.intro; refine ⟨fun wc hE => ?_, ?_⟩; (go_simp; exact rfl); go_simp) | (refine calm_call ?_ ?_ ?_; (decide); (first | rfl | (focus (go_simp; done))); apply Exists.intro; refine ⟨fun wc hE => ?_, ?_⟩; (go_simp; (first | fail)); go_simp) | (refine calm_skip ?_ ?_ ?_; (decide); (focus (go_simp; done)); go_simp))
      refine calm_nil ?_
      intro wx hx
      have X := Lib.hid (X.out.trans hx)
      clear hx k0 k1 k2 l0 l1 l2
      go_wp2
      go_roundw
      case rel => exact ⟨j + 1, by omega, by go_num, X.out⟩
      case measure => first | (simp [intOf]; done) | (simp [intOf]; omega)
    · go_wp2
      go_ret
      exact ⟨rfl, X.out⟩
theorem code_none (w : World) : CodeAt w (.slice none 0 0) [] := ⟨by simp, none, 0, 0, 0, rfl, by simp, by decide, ⟨fun h => by simp at h, fun i j hi hj => by simp at hi⟩⟩
theorem fits_regs {p q : LProg} {m : List (List Int)} (h : q.regs = p.regs) (hf : fitsOk p m = true) : fitsOk q m = true := by
  unfold fitsOk at hf ⊢
  rw [h]
  exact hf
theorem progR {w : World} {v : Value} {r : List LReg} (h : RegsAt w v r) : ProgAt w (.agg #[v, .slice none 0 0]) ⟨r, []⟩ := ⟨_, _, rfl, h, code_none _⟩
theorem prog_forms {w : World} {v : Value} {p : LProg} (h : ProgAt w v p) : ∃ a b c d, v = .agg #[.slice a p.regs.length b, .slice c p.code.length d] ∧ RegsAt w (.slice a p.regs.length b) p.regs ∧ CodeAt w (.slice c p.code.length d) p.code := by
  obtain ⟨v1, v2, rfl, h1, h2⟩ := h
  have g1 := h1
  have g2 := h2
  obtain ⟨-, oa, cap, b, o, rfl, -⟩ := h1
  obtain ⟨-, ob, capb, b2, o2, rfl, -⟩ := h2
  exact ⟨_, _, _, _, rfl, g1, g2⟩
set_option maxRecDepth 100000 in
theorem regionsL_c (p q : LProg) (v u : Value) (w : World) (hp : ProgAt w v p) (hq : ProgAt w u q) (h : q.regs = p.regs) :
    Calls Try.prog 17 #[v, u] w fun e w' => e = .returned (.bool true) ∧ Ext w w' := by
  obtain ⟨a1, a2, a3, a4, rfl, hr, -⟩ := prog_forms hp
  obtain ⟨b1, b2, b3, b4, rfl, hs, -⟩ := prog_forms hq
  rw [h] at hs
  have HR := Lib.hid hr
  have HS := Lib.hid hs
  rw [h]
  clear hr hs hp hq
  go_enter Try.func17, Try.ntmps17
  go_wp2_with fail
  (with_reducible refine (rSame_c ⟨p.regs, []⟩ _ _ _ (progR (HR.out.ext ?_)) (progR (HS.out.ext ?_))).mono ?_)
  · repeat' first | (with_reducible exact Ext.refl _) | (with_reducible refine Ext.alloc ?_ _) | (with_reducible refine Ext.drew ?_)
  · repeat' first | (with_reducible exact Ext.refl _) | (with_reducible refine Ext.alloc ?_ _) | (with_reducible refine Ext.drew ?_)
  rintro e w1 ⟨rfl, hx⟩
  have X : Ext w w1 := (by repeat' first | (with_reducible exact Ext.refl _) | (with_reducible refine Ext.alloc ?_ _) | (with_reducible refine Ext.drew ?_) : Ext w _).trans hx
  clear hx
  go_wp2
  go_ret
  exact ⟨rfl, X⟩
end Go.Proofs.Ytiiollmbogojoaa
