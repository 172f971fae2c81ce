/- Laid together from: Hst, Ref3a, Ref3b, Ref3c, Seq1, Ck1, CkL, Ref3e, Law1, Ref6a, Ref3d. -/
import Derived.Test.YteiknefajlocoaaLoadQuietB14
import Derived.Test.YteiknefajlocoaaLoadQuietB12
import Derived.Test.YteiknefajlocoaaLoadQuietB17
import Derived.Test.YteiknefajlocoaaLoadQuietB21
import Derived.Test.YteiknefajlocoaaLoadQuietB19
import Derived.Test.YteiknefajlocoaaLoadQuietB7
import Derived.Test.YteiknefajlocoaaLoadQuietB9
import Derived.Test.YteiknefajlocoaaLoadQuietB6
import Derived.Test.YteiknefajlocoaaProg
import Derived.Test.YteiknefajlocoaaLoadQuietB24
import Derived.Test.YteiknefajlocoaaLoadQuietB8

namespace Go.Proofs.Yteiknefajlocoaa
open Go.ChangeShapes Go.WideShapes Go.ChangeAt Go.RowKit
set_option linter.unusedVariables false
set_option linter.unusedSimpArgs false
theorem Qqd : (Try.prog.info? 68).map (fun i => (i.zero, i.size, i.bytes)) = some (some (.agg #[.int .i64 0, .bool false]), 2, 16) := by kernel_rfl
theorem Qch : (Try.prog.info? 70).map (fun i => (i.zero, i.size, i.bytes)) = some (some (.agg #[.int .i64 0, .int .i64 0, .int .i64 0, .int .i64 0, .int .i64 0]), 5, 40) := by kernel_rfl
theorem Qgq : (Try.prog.info? 25).map (·.size) = some 2 := by kernel_rfl
theorem Qj8 {w : World} {k size m : Nat} {T : TypeId} {cs : Array Value} (h : Blk w k T cs) (hs : cs.size = m * size) (h1 : cs.all (·.oneCell') = true) : Src w size (some ⟨k, 0, none⟩) m cs.toList := by
 refine ⟨by simpa using hs, (fun e => by cases e), fun ad ha j u hu => ?_, fun u hu => ?_⟩
 ·obtain rfl := Option.some.inj ha
  rw [show (⟨k, 0, none⟩ : Addr).add j = ⟨k, 0 + j, none⟩ from Q3n k 0 j, Nat.zero_add, h.cell]
  simpa using hu
 ·rw [Array.all_eq_true'] at h1
  exact h1 u (by simpa using hu)
theorem Qgl : ∀ (l : List LIns) (k : Nat) (x : Int), k < l.length → (l.flatMap Q1m).set (k * 5 + 4) (.int .i64 x) = (l.set k { l.getD k default with n := x }).flatMap Q1m
 | [], k, x, h => by simp at h
 | i :: l, 0, x, h => by simp [Q1m]
 | i :: l, k + 1, x, h => by
  have := Qgl l k x (by simpa using h)
  rw [List.flatMap_cons, show (k + 1) * 5 + 4 = k * 5 + 4 + 5 by omega, List.set_cons_succ, List.flatMap_cons, List.getD_cons_succ, ← this]
  simp [Q1m]
theorem Qf5 {w : World} {B kc cap n : Nat} {l : List LIns} (h : w.ownsRow B 70 5 (.slice (some ⟨kc, 0, none⟩) n cap) l.length (l.flatMap Q1m)) {k : Nat} (hk : k < l.length) (x : Int) :
  (w.setCell ⟨kc, k * 5 + 4, none⟩ (.int .i64 x)).ownsRow B 70 5 (.slice (some ⟨kc, 0, none⟩) n cap) (l.set k { l.getD k default with n := x }).length ((l.set k { l.getD k default with n := x }).flatMap Q1m) := by
 obtain ⟨h0, ⟨-, h1⟩ | ⟨g, cap', cur, hv, h1, h2, h3, h4, h5, h6⟩⟩ := h
 ·omega
 simp only [Value.slice.injEq, Option.some.injEq, Addr.mk.injEq, and_true, true_and] at hv
 obtain ⟨rfl, rfl, rfl⟩ := hv
 have hb : Blk w kc 70 cur := h2
 have hl : (l.set k { l.getD k default with n := x }).length = l.length := by simp
 rw [hl, ← Qgl l k x hk]
 refine ⟨by simpa using h0, .inr ⟨kc, cap, cur.setIfInBounds (k * 5 + 4) (.int .i64 x), rfl, h1, hb.set_ _ _, h3, h4, by simpa using h5, ?_⟩⟩
 rw [← h6, Array.toList_setIfInBounds, List.take_set]
theorem Q9t {w : World} {B : Nat} {v : Value} {n : Nat} {l : List LIns} (h : w.ownsRow B 70 5 v n (l.flatMap Q1m)) (hn : n = l.length) (h0 : 0 < n) : ∃ k cap, v = .slice (some ⟨k, 0, none⟩) n cap ∧ B ≤ k ∧ n ≤ cap ∧ cap ≤ maxLen ∧
  ∀ j, j < l.length → (w.cell? ⟨k, j * 5, none⟩ = some (.int .i64 (l.getD j default).op) ∧ w.frozen? ⟨k, j * 5, none⟩ = false) ∧ (w.cell? ⟨k, j * 5 + 4, none⟩ = some (.int .i64 (l.getD j default).n) ∧ w.frozen? ⟨k, j * 5 + 4, none⟩ = false) := by
 subst hn
 obtain ⟨hl, ⟨-, h1⟩ | ⟨g, cap', cur, rfl, h1, h2, h3, h4, h5, h6⟩⟩ := h
 ·omega
 have hb : Blk w g 70 cur := h2
 refine ⟨g, cap', rfl, h1, h3, h4, fun j hj => ?_⟩
 have key : ∀ c, c < 5 → cur[j * 5 + c]? = (Q1m (l.getD j default))[c]? := fun c hc => by
  rw [← Qac Q1m 5 (fun _ => rfl) l j c hj hc, ← h6, List.getElem?_take_of_lt (by omega)]
  simp
 refine ⟨⟨?_, hb.frozen _⟩, ⟨?_, hb.frozen _⟩⟩
 ·rw [hb.cell]
  have := key 0 (by omega)
  simpa [Q1m] using this
 ·rw [hb.cell]
  have := key 4 (by omega)
  simpa [Q1m] using this
structure HSt (w0 wr : World) (B go : Nat) (vR vC vP : Value) (regs : List LReg) (code : List LIns) (places : List Int) : Prop where
 box : Blk wr go 25 #[vR, vC]
 rg : wr.ownsRow B 68 2 vR regs.length (regs.flatMap Q56)
 cd : wr.ownsRow B 70 5 vC code.length (code.flatMap Q1m)
 pl : wr.ownsRow B 3 1 vP places.length (places.map (Value.int .i64))
 ext : Ext w0 wr
 hg : B ≤ go
 hB : w0.heap.size ≤ B
section
variable {w0 wr w' : World} {B go : Nat} {vR vC vP : Value} {regs : List LReg} {code : List LIns} {places : List Int}
theorem HSt.size (h : HSt w0 wr B go vR vC vP regs code places) : B ≤ wr.heap.size := by have := h.box.lt; have := h.hg; omega
theorem HSt.extend (h : HSt w0 wr B go vR vC vP regs code places) (hx : Ext wr w') : HSt w0 w' B go vR vC vP regs code places :=
 ⟨h.box.ext hx, Q34 h.rg hx, Q34 h.cd hx, Q34 h.pl hx, h.ext.trans hx, h.hg, h.hB⟩
theorem HSt.cells (h : HSt w0 wr B go vR vC vP regs code places) : (wr.cell? ⟨go, 0, none⟩ = some vR ∧ wr.frozen? ⟨go, 0, none⟩ = false) ∧ (wr.cell? ⟨go, 1, none⟩ = some vC ∧ wr.frozen? ⟨go, 1, none⟩ = false) :=
 ⟨⟨by rw [h.box.cell]; rfl, h.box.frozen _⟩, ⟨by rw [h.box.cell]; rfl, h.box.frozen _⟩⟩
theorem HSt.place (h : HSt w0 wr B go vR vC vP regs code places) {vP' : Value} {ps : List Int} (hg : wr.grownBy w' vP.ownBlock) (ho : w'.ownsRow B 3 1 vP' ps.length (ps.map (Value.int .i64))) : HSt w0 w' B go vR vC vP' regs code ps :=
 ⟨h.box.grown hg (Q09 h.pl h.box (by decide)), Q22 h.rg hg (fun k hk he => Q1w h.pl h.rg (by decide) k hk he), Q22 h.cd hg (fun k hk he => Q1w h.pl h.cd (by decide) k hk he), ho,
  Q4q h.ext hg h.ext.size (fun k hk => Nat.le_trans h.hB (Q3r h.pl k hk)), h.hg, h.hB⟩
theorem HSt.code_ (h : HSt w0 wr B go vR vC vP regs code places) {vC' : Value} {cs : List LIns} (hg : wr.grownBy w' vC.ownBlock) (ho : w'.ownsRow B 70 5 vC' cs.length (cs.flatMap Q1m)) : HSt w0 (w'.setCell ⟨go, 1, none⟩ vC') B go vR vC' vP regs cs places := by
 have hb := h.box.grown hg (Q09 h.cd h.box (by decide))
 have hr := Q22 h.rg hg (fun k hk he => Q1w h.cd h.rg (by decide) k hk he)
 have hp := Q22 h.pl hg (fun k hk he => Q1w h.cd h.pl (by decide) k hk he)
 exact ⟨hb.set_ 1 vC', Q1e hr (Q09 hr hb (by decide)) _, Q1e ho (Q09 ho hb (by decide)) _, Q1e hp (Q09 hp hb (by decide)) _,
  (Q4q h.ext hg h.ext.size (fun k hk => Nat.le_trans h.hB (Q3r h.cd k hk))).setCell (p := ⟨go, 1, none⟩) (Nat.le_trans h.hB h.hg) _, h.hg, h.hB⟩
theorem HSt.setN {kc cap n : Nat} (h : HSt w0 wr B go vR (.slice (some ⟨kc, 0, none⟩) n cap) vP regs code places) {k : Nat} (hk : k < code.length) (x : Int) :
  HSt w0 (wr.setCell ⟨kc, k * 5 + 4, none⟩ (.int .i64 x)) B go vR (.slice (some ⟨kc, 0, none⟩) n cap) vP regs (code.set k { code.getD k default with n := x }) places := by
 have hkB := Q3r h.cd kc rfl
 have hr : some kc ≠ vR.ownBlock := fun e => Q1w h.rg h.cd (by decide) kc e.symm rfl
 have hp : some kc ≠ vP.ownBlock := fun e => Q1w h.pl h.cd (by decide) kc e.symm rfl
 have hgk : go ≠ kc := fun e => Q09 h.cd h.box (by decide) (by rw [e]; rfl)
 exact ⟨h.box.far (p := ⟨kc, k * 5 + 4, none⟩) hgk _, Q1e h.rg hr _, Qf5 h.cd hk x, Q1e h.pl hp _, h.ext.setCell (p := ⟨kc, k * 5 + 4, none⟩) (Nat.le_trans h.hB hkB) _, h.hg, h.hB⟩
theorem HSt.prog (h : HSt w0 wr B go vR vC vP regs code places) (hr : ∀ r ∈ regs, R64 r.log) (hc : ∀ i ∈ code, i.fits) : Q07 wr (.agg #[vR, vC]) ⟨regs, code⟩ :=
 ⟨_, _, rfl, Qee h.rg hr, Q94 h.cd hc⟩
end
def relK (f : Nat → Nat) (l : List LIns) (k : Nat) : List LIns := (l.take k).map (Q0x f) ++ l.drop k
theorem Qeb (f : Nat → Nat) (l : List LIns) : relK f l 0 = l := by simp [relK]
theorem Qed (f : Nat → Nat) (l : List LIns) : relK f l l.length = l.map (Q0x f) := by simp [relK]
theorem Q6c (f : Nat → Nat) (l : List LIns) (k : Nat) : (relK f l k).length = l.length := by
 simp only [relK, List.length_append, List.length_map, List.length_take, List.length_drop]
 omega
theorem Q8i (f : Nat → Nat) (l : List LIns) {k : Nat} (hk : k < l.length) : (relK f l k).getD k default = l.getD k default := by
 unfold relK
 rw [List.getD_eq_getElem?_getD, List.getElem?_append_right (by simp; omega)]
 simp [Nat.min_eq_left (Nat.le_of_lt hk), hk]
theorem Qb8 (f : Nat → Nat) (l : List LIns) {k : Nat} (hk : k < l.length) : relK f l (k + 1) = (relK f l k).set k (Q0x f (l.getD k default)) := by
 have e : l.drop k = l.getD k default :: l.drop (k + 1) := by
  rw [List.drop_eq_getElem_cons hk]
  simp [hk]
 have hlen : ((l.take k).map (Q0x f)).length = k := by simp; omega
 have h1 : l[k] = l.getD k default := by simp [hk]
 unfold relK
 rw [List.take_succ_eq_append_getElem hk, e, List.set_append_right _ _ (by omega), hlen, Nat.sub_self, List.set_cons_zero, List.map_append, List.append_assoc, h1]
 rfl
theorem Qec (f : Nat → Nat) (l : List LIns) {k : Nat} (hk : k < l.length) (h : ¬ ((l.getD k default).op = 7 ∨ (l.getD k default).op = 8)) : relK f l (k + 1) = relK f l k := by
 rw [Qb8 f l hk, Q5p h]
 apply List.ext_getElem (by simp)
 intro j h1 h2
 rw [List.getElem_set]
 split
 ·rename_i e
  subst e
  have := Q8i f l hk
  rw [List.getD_eq_getElem?_getD, List.getElem?_eq_getElem h2] at this
  exact this.symm
 ·rfl
def insV (i : LIns) : Value := .agg #[.int .i64 i.op, .int .i64 i.a, .int .i64 i.b, .int .i64 i.c, .int .i64 i.n]
def putV (op : Int) : Int := if op = 3 ∨ op = 5 then 0 else if op = 4 ∨ op = 6 then 1 else -1
theorem Qcl {oa : Option Addr} {n b o cap : Nat} (h : 0 < n → oa = some ⟨b, o, none⟩) (W : World) (i : Int) (h0 : 0 ≤ i) (h1 : i < n) :
  (Instr.indexAt 71 (.slice oa n cap) (.int .i64 i)).run Try.prog W = .ok (.pointer (some ⟨b, o + i.toNat, none⟩)) W := by
 obtain rfl := h (by omega)
 have hs : (Try.prog.info? 71).isSome = true := by kernel_rfl
 have hs : (Try.prog.info? 2).map (·.size) = some 1 := by kernel_rfl
 simp [Instr.indexAt, run_underlying Try.underlying71, asIntOf, h0, h1]
 exact Q3n b o _
theorem Q3l (W : World) (k n cap : Nat) (i : Int) (h0 : 0 ≤ i) (h1 : i < n) :
  (Instr.indexAt 71 (.slice (some ⟨k, 0, none⟩) n cap) (.int .i64 i)).run Try.prog W = .ok (.pointer (some ⟨k, i.toNat, none⟩)) W := by
 have := Qcl (oa := some ⟨k, 0, none⟩) (n := n) (b := k) (o := 0) (cap := cap) (fun _ => rfl) W i h0 h1
 simpa using this
theorem Qgp : (Try.prog.info? 98).map (fun i => (i.zero, i.size, i.bytes)) = some (some (.agg #[.int .i64 0, .int .i64 0, .int .i64 0]), 3, 24) := by kernel_rfl
theorem Qci : (Try.prog.info? 2).map (fun i => (i.zero, i.size, i.bytes)) = some (some (.int .i64 0), 1, 8) := by kernel_rfl
theorem Qlu (i : LIns) (w : World) :
  Calls Try.prog 63 #[insV i] w fun e w' => e = .returned (.int .i64 (putV i.op)) ∧ Ext w w' := by
 obtain ⟨op, a, b, c, n⟩ := i
 unfold insV
 simp only
 by_cases h3 : op = 3
 ·subst h3
  go_enter Try.func63, Try.ntmps63
  go_wp2
  go_ret
  exact ⟨Q3c (by decide), (Ext.refl _).alloc _⟩
 by_cases h5 : op = 5
 ·subst h5
  go_enter Try.func63, Try.ntmps63
  go_wp2
  go_ret
  exact ⟨Q3c (by decide), (Ext.refl _).alloc _⟩
 by_cases h4 : op = 4
 ·subst h4
  go_enter Try.func63, Try.ntmps63
  go_wp2
  go_ret
  exact ⟨Q3c (by decide), (Ext.refl _).alloc _⟩
 by_cases h6 : op = 6
 ·subst h6
  go_enter Try.func63, Try.ntmps63
  go_wp2
  go_ret
  exact ⟨Q3c (by decide), (Ext.refl _).alloc _⟩
 have Hv : Hid (putV op = -1) := Lib.hid (by unfold putV; rw [if_neg (by omega), if_neg (by omega)])
 have b3 : (op == 3) = false := by simpa using h3
 have b5 : (op == 5) = false := by simpa using h5
 have b4 : (op == 4) = false := by simpa using h4
 have b6 : (op == 6) = false := by simpa using h6
 clear h3 h5 h4 h6
 go_enter Try.func63, Try.ntmps63
 go_wp2
 go_ret
 exact ⟨Q3c Hv.out.symm, (Ext.refl _).alloc _⟩
set_option maxHeartbeats 1000000 in
theorem Qer (p : Q01) (c : Int) (v : Value) (w : World) (hp : Q07 w v p) (hr : Q02 p.regs = true) (h0 : 0 ≤ c) (h1 : c.toNat < p.regs.length) :
  Calls Try.prog 66 #[v, .int .i64 c] w fun e w' => e = .returned (.int .i64 (Q1k p c.toNat : Nat)) ∧ Ext w w' := by
 obtain ⟨v1, v2, rfl, ⟨hb, oa, cap, b, o, rfl, hc1, hc2, hrow⟩, ⟨-, ob, capb, b2, o2, rfl, -⟩⟩ := hp
 have hlen := Q2x hr
 have Hlog := Lib.hid (Q55 hr)
 have hix := Q2k (cap := cap) hrow.at_
 have Hrow := Lib.hid hrow
 have Htot := Lib.hid (Q8a hr)
 have Hr := Lib.hid hr
 clear hrow hc1 hc2 hb hr
 obtain ⟨m, rfl⟩ : ∃ m : Nat, c = (m : Int) := ⟨c.toNat, by omega⟩
 simp only [Int.toNat_natCast] at *
 go_enter Try.func66, Try.ntmps66
 go_wp2_with fail
 obtain ⟨W, g, hg, hW, hx, bA⟩ := Q14 w #[.slice oa p.regs.length cap, .slice ob p.code.length capb] 25
 rw [hW, hg]
 have X := Lib.hid hx
 clear hW hg hx
 go_loopw [5, 6] (fun n i wr => ∃ j : Nat, j ≤ m ∧ i = .int .i64 j ∧ n = .int .i64 (Q1k p j : Nat) ∧ Ext W wr) (fun _ i _ => m - (intOf i).toNat)
 case atStart => exact ⟨0, by omega, rfl, by rw [Qhk]; rfl, Ext.refl _⟩
 case round =>
  obtain ⟨j, hj, rfl, rfl, hE⟩ := hrel
  have bA := bA.ext hE
  have XE := Lib.hid hE
  have X := Lib.hid (X.out.trans hE)
  clear hE
  by_cases hlt : j < m
  ·have hjr : j < p.regs.length := by omega
   obtain ⟨e0, e1⟩ := (Hrow.out.ext X.out).reg j hjr
   have Hlg := Lib.hid (Hlog.out _ (Q20 hjr))
   have Hbs := Lib.hid (Qhl p hjr)
   have hbt := Qhm p j
   have hbt2 := Qhm p (j + 1)
   have htt := Htot.out
   generalize p.regs.getD j default = r at *
   have hw6 : Q0b r ≤ 64 := Q5k r Hlg.out.2
   have a0 : wr.cell? ⟨g, 0, none⟩ = some (.slice oa p.regs.length cap) := by rw [bA.cell]; rfl
   go_wp2_with fail
   (with_reducible refine (Q7k r Hlg.out.1 Hlg.out.2 wr).mono ?_)
   rintro e w2 ⟨rfl, hx⟩
   have XE := Lib.hid (XE.out.trans hx)
   clear hx a0 e0 e1
   go_wp2
   go_roundw
   case rel => exact ⟨j + 1, by omega, by go_num, by rw [Hbs.out]; go_num, XE.out⟩
   case measure => first | (simp [intOf]; done) | (simp [intOf]; omega)
  ·have hje : j = m := by omega
   subst hje
   have hlt2 : decide ((j : Int) < (j : Int)) = false := by simp
   go_wp2
   go_ret
   exact ⟨rfl, X.out⟩
theorem Q70 {l : List Int} {i : LIns} (h : ¬ (i.op = 29 ∨ i.op = 30)) : Q2e l i = [] := by unfold Q2e; rw [if_neg h]
theorem index_mem' {oa : Option Addr} {n b o cap : Nat} (h : 0 < n → oa = some ⟨b, o, none⟩) (W : World) (i : Int) (h0 : 0 ≤ i) (h1 : i < n) :
  (Instr.indexAt 31 (.slice oa n cap) (.int .i64 i)).run Try.prog W = .ok (.pointer (some ⟨b, o + i.toNat, none⟩)) W := by
 obtain rfl := h (by omega)
 have hs : (Try.prog.info? 71).map (·.size) = some 1 := by kernel_rfl
 simp [Instr.indexAt, run_underlying Try.underlying31, asIntOf, h0, h1]
 exact Q3n b o _
theorem Qcf : (Try.prog.info? 71).map (fun i => (i.zero, i.size, i.bytes)) = some (some (.slice none 0 0), 1, 24) := by kernel_rfl
section
variable {w0 wr w' : World} {U gs k : Nat} {vS vM : Value} {fin value : Int} {steps : Nat} {regs : List Int} {seen : List LSee} {mem : List (List Int)}
end
theorem Qd5 {l : List Int} (h : ∀ x ∈ l, R64 x) : Q1q l := fun n => by
 by_cases hn : n < l.length
 ·have : l.getD n 0 = l[n] := by simp [hn]
  rw [this]; exact h _ (List.getElem_mem hn)
 ·rw [List.getD_eq_getElem?_getD, List.getElem?_eq_none (by omega)]
  exact Q7l
theorem Q1q.mem {l : List Int} (h : Q1q l) : ∀ x ∈ l, R64 x := fun x hx => by
 obtain ⟨n, hn, rfl⟩ := List.getElem_of_mem hx
 have := h n
 simpa [hn] using this
theorem Qi6 {p : Q01} {i : LIns} (hok : Q00 p 10 i = true) (h : i.op = 3 ∨ i.op = 4 ∨ i.op = 5 ∨ i.op = 6) : okIn 10 i.a = true ∧ okIn 10 i.b = true ∧ 0 ≤ i.c ∧ i.c.toNat < p.regs.length := by
 have hr : (Q10 i || Q18 i) = true := by unfold Q10 Q18; rcases h with h | h | h | h <;> simp [h]
 have hc := Q2p hok hr
 refine ⟨?_, ?_, hc⟩ <;> (unfold Q00 at hok; rcases h with h | h | h | h <;> simp [h, okIn] at hok ⊢ <;> omega)
structure Turn (S : Nat → Prop) (w w' : World) : Prop where
 os : w'.os = w.os
 tape : w'.tape = w.tape
 output : w'.output = w.output
 size : w.heap.size ≤ w'.heap.size
 block : ∀ j, j < w.heap.size → ¬ S j → w'.heap[j]? = w.heap[j]?
section
variable {S S' : Nat → Prop} {w w' w'' : World}
theorem Turn.ofExt (h : Ext w w') : Turn S w w' := ⟨h.os, h.tape, h.output, h.size, fun j hj _ => Below.block h j hj⟩
theorem Turn.refl (w : World) : Turn S w w := Turn.ofExt (Ext.refl w)
theorem Turn.trans (h : Turn S w w') (k : Turn S' w' w'') (hs : ∀ j, j < w.heap.size → S' j → S j) : Turn S w w'' :=
 ⟨k.os.trans h.os, k.tape.trans h.tape, k.output.trans h.output, Nat.le_trans h.size k.size, fun j hj hn => (k.block j (Nat.lt_of_lt_of_le hj h.size) (fun e => hn (hs j hj e))).trans (h.block j hj hn)⟩
theorem Turn.ext (h : Turn S w w') (k : Ext w' w'') : Turn S w w'' := h.trans (Turn.ofExt (S := S) k) (fun _ _ e => e)
theorem Turn.grown {row : Option Nat} (h : w.grownBy w' row) : Turn (fun j => row = some j) w w' := ⟨h.os, h.tape, h.output, h.size, fun j hj hn => h.block j hj (fun e => hn e.symm)⟩
theorem Turn.set (w : World) (p : Addr) (u : Value) : Turn (fun j => j = p.block) w (w.setCell p u) := ⟨rfl, rfl, rfl, by simp [World.setCell], fun j hj hn => Below.heap_setCell w p u j hn⟩
theorem Turn.mono (h : Turn S w w') (hs : ∀ j, S j → S' j) : Turn S' w w' := ⟨h.os, h.tape, h.output, h.size, fun j hj hn => h.block j hj (fun e => hn (hs j e))⟩
theorem Turn.below {B : Nat} (h : Turn S w w') (hB : B ≤ w.heap.size) (hs : ∀ j, S j → B ≤ j) : Below B w w' :=
 ⟨h.os, h.tape, h.output, h.size, fun j hj => h.block j (Nat.lt_of_lt_of_le hj hB) (fun e => by have := hs j e; omega)⟩
theorem Blk.turn {g : Nat} {t : TypeId} {cs : Array Value} (h : Blk w g t cs) (ht : Turn S w w') (hn : ¬ S g) : Blk w' g t cs := (ht.block g h.lt hn).trans h
end
section
variable {vR vC vS vM vW vB u : Value} {fin value x : Int} {steps at_ : Nat} {regs : List Int}
end
section
variable {w w' : World} {B g : Nat} {vR vC vM vB vS vW : Value} {bases : List Int} {M : Mach}
end
def Q4h (k : LKn) : List Value := [.int .i64 k.bits, .bool k.sec]
def knV (k : LKn) : Value := .agg #[.int .i64 k.bits, .bool k.sec]
def stV (s : KSt) : Array Value := (s.flatMap Q4h).toArray
theorem Qc6 (s : KSt) : (s.flatMap Q4h).length = s.length * 2 := by
 induction s with
 | nil => rfl
 | cons k s ih => rw [List.flatMap_cons, List.length_append, ih, List.length_cons]; simp [Q4h]; omega
theorem Q11 {s : KSt} (h : s.length = 8) : (stV s).size = 16 := by
 unfold stV
 rw [List.size_toArray, Qc6, h]
theorem Qgc : ∀ (s : KSt) (a : Nat), a < s.length → (s.flatMap Q4h)[a * 2]? = some (.int .i64 (s.getD a default).bits) ∧ (s.flatMap Q4h)[a * 2 + 1]? = some (.bool (s.getD a default).sec)
 | [], a, h => by simp at h
 | k :: s, 0, h => by simp [Q4h]
 | k :: s, a + 1, h => by
  have := Qgc s a (by simpa using h)
  rw [List.flatMap_cons, show (a + 1) * 2 = a * 2 + 2 by omega, show a * 2 + 2 + 1 = a * 2 + 1 + 2 by omega]
  simp only [Q4h, List.cons_append, List.nil_append, List.getElem?_cons_succ, List.getD_cons_succ]
  exact this
theorem Qdq {s : KSt} (h : s.length = 8) {a : Int} (ha : a.toNat < 8) : (stV s)[a.toNat * 2]? = some (.int .i64 (kg s a).bits) ∧ (stV s)[a.toNat * 2 + 1]? = some (.bool (kg s a).sec) := by
 have := Qgc s a.toNat (by omega)
 unfold stV kg
 simpa using this
theorem Qgb : ∀ (s : KSt) (a : Nat) (k : LKn), a < s.length → ((s.flatMap Q4h).set (a * 2) (.int .i64 k.bits)).set (a * 2 + 1) (.bool k.sec) = (s.set a k).flatMap Q4h
 | [], a, k, h => by simp at h
 | x :: s, 0, k, h => by simp [Q4h]
 | x :: s, a + 1, k, h => by
  have := Qgb s a k (by simpa using h)
  rw [List.flatMap_cons, show (a + 1) * 2 = a * 2 + 2 by omega, show a * 2 + 2 + 1 = a * 2 + 1 + 2 by omega, List.set_cons_succ, List.flatMap_cons]
  simp only [Q4h, List.cons_append, List.nil_append, List.set_cons_succ]
  rw [this]
theorem Qdp {s : KSt} (h : s.length = 8) {a : Int} (ha : a.toNat < 8) (k : LKn) : ((stV s).setIfInBounds (a.toNat * 2) (.int .i64 k.bits)).setIfInBounds (a.toNat * 2 + 1) (.bool k.sec) = stV (kset s a k) := by
 have := Qgb s a.toNat k (by omega)
 unfold stV kset
 rw [← this]
 simp
theorem Q5v (s : KSt) : (stV s).all (·.oneCell') = true := by
 unfold stV
 rw [Array.all_eq_true']
 intro u hu
 simp only [List.mem_toArray, List.mem_flatMap, Q4h, List.mem_cons, List.not_mem_nil, or_false] at hu
 obtain ⟨k, -, rfl | rfl⟩ := hu <;> rfl
section
variable {w w' : World} {k : Nat} {s : KSt}
theorem Q1n (h : Blk w k 80 (stV s)) (hl : s.length = 8) {a : Int} (ha : okIn 8 a = true) :
  (w.cell? ⟨k, a.toNat * 2, none⟩ = some (.int .i64 (kg s a).bits) ∧ w.frozen? ⟨k, a.toNat * 2, none⟩ = false) ∧ (w.cell? ⟨k, a.toNat * 2 + 1, none⟩ = some (.bool (kg s a).sec) ∧ w.frozen? ⟨k, a.toNat * 2 + 1, none⟩ = false) := by
 obtain ⟨h0, h1⟩ := Q05.1 ha
 obtain ⟨g1, g2⟩ := Qdq hl (a := a) (by omega)
 exact ⟨⟨by rw [h.cell, g1], h.frozen _⟩, ⟨by rw [h.cell, g2], h.frozen _⟩⟩
theorem Q3p (h : Blk w k 80 (stV s)) (hl : s.length = 8) {a : Int} (ha : okIn 8 a = true) (x : LKn) :
  Blk ((w.setCell ⟨k, a.toNat * 2, none⟩ (.int .i64 x.bits)).setCell ⟨k, a.toNat * 2 + 1, none⟩ (.bool x.sec)) k 80 (stV (kset s a x)) := by
 obtain ⟨h0, h1⟩ := Q05.1 ha
 rw [← Qdp hl (by omega) x]
 exact (h.set_ _ _).set_ _ _
end
def Q4s (w : World) (B ks n : Nat) (T : Tab) : Prop :=
 ∃ R : Array Value, Blk w ks 81 R ∧ R.size = n ∧ ∀ j, j < n → match tg T j with
  | none => R[j]? = some (.pointer none)
  | some s => ∃ k, R[j]? = some (.pointer (some ⟨k, 0, none⟩)) ∧ B ≤ k ∧ Blk w k 80 (stV s)
theorem Q4s.ext {w w' : World} {B ks n : Nat} {T : Tab} (h : Q4s w B ks n T) (hx : Ext w w') : Q4s w' B ks n T := by
 obtain ⟨R, h1, h2, h3⟩ := h
 refine ⟨R, h1.ext hx, h2, fun j hj => ?_⟩
 have := h3 j hj
 cases ht : tg T j with
 | none => rw [ht] at this; exact this
 | some s =>
  rw [ht] at this
  obtain ⟨k, e1, e2, e3⟩ := this
  exact ⟨k, e1, e2, e3.ext hx⟩
theorem Q4s.put {w : World} {B ks n k at_ : Nat} {T : Tab} {s : KSt} (h : Q4s w B ks n T) (hT : T.length = n) (hat : at_ < n) (hB : B ≤ k) (hk : Blk w k 80 (stV s)) :
  Q4s (w.setCell ⟨ks, at_, none⟩ (.pointer (some ⟨k, 0, none⟩))) B ks n (T.set at_ (some s)) := by
 obtain ⟨R, h1, h2, h3⟩ := h
 refine ⟨_, h1.set_ at_ _, by simpa using h2, fun j hj => ?_⟩
 have far : ∀ {k' : Nat} {u : KSt}, Blk w k' 80 (stV u) → Blk (w.setCell ⟨ks, at_, none⟩ (.pointer (some ⟨k, 0, none⟩))) k' 80 (stV u) := fun hb => hb.far (p := ⟨ks, at_, none⟩) (Blk.ne_ hb h1 (by decide)) _
 rw [Q69]
 by_cases e : at_ = j
 ·subst e
  rw [if_pos ⟨rfl, by omega⟩]
  exact ⟨k, by simp [h2, hat], hB, far hk⟩
 ·rw [if_neg (by omega)]
  have := h3 j hj
  cases ht : tg T j with
  | none => rw [ht] at this; simpa [Array.getElem?_setIfInBounds, e] using this
  | some u =>
   rw [ht] at this
   obtain ⟨k', e1, e2, e3⟩ := this
   exact ⟨k', by simpa [Array.getElem?_setIfInBounds, e] using e1, e2, far e3⟩
theorem Q4s.far {w : World} {B ks n : Nat} {T : Tab} (h : Q4s w B ks n T) {p : Addr} {t : TypeId} {cs : Array Value} (hp : Blk w p.block t cs) (h1 : t ≠ 81) (h2 : t ≠ 80) (u : Value) : Q4s (w.setCell p u) B ks n T := by
 obtain ⟨R, e1, e2, e3⟩ := h
 refine ⟨R, e1.far (Blk.ne_ e1 hp (fun e => h1 e.symm)) u, e2, fun j hj => ?_⟩
 have := e3 j hj
 cases ht : tg T j with
 | none => rw [ht] at this; exact this
 | some s =>
  rw [ht] at this
  obtain ⟨k, f1, f2, f3⟩ := this
  exact ⟨k, f1, f2, f3.far (Blk.ne_ f3 hp (fun e => h2 e.symm)) u⟩
theorem Q4s.grown {w w' : World} {B ks n m : Nat} {T : Tab} {D : Nat} {v : Value} {xs : List Value} (h : Q4s w B ks n T) (hu : w.ownsRow D 3 1 v m xs) (hg : w.grownBy w' v.ownBlock) : Q4s w' B ks n T := by
 obtain ⟨R, e1, e2, e3⟩ := h
 refine ⟨R, e1.grown hg (Q09 hu e1 (by decide)), e2, fun j hj => ?_⟩
 have := e3 j hj
 cases ht : tg T j with
 | none => rw [ht] at this; exact this
 | some s =>
  rw [ht] at this
  obtain ⟨k, f1, f2, f3⟩ := this
  exact ⟨k, f1, f2, f3.grown hg (Q09 hu f3 (by decide))⟩
structure CSt (w : World) (B g ks : Nat) (vR vC vK : Value) (p : Q01) (T : Tab) (wk : List Int) : Prop where
 box : Blk w g 75 #[vR, vC, .slice (some ⟨ks, 0, none⟩) p.code.length p.code.length, vK]
 row : Q4s w B ks p.code.length T
 wk : w.ownsRow B 3 1 vK wk.length (wk.map (Value.int .i64))
 tok : Tok p T
 hg : B ≤ g
 hk : B ≤ ks
section
variable {w w' : World} {B g ks : Nat} {vR vC vK : Value} {p : Q01} {T : Tab} {wk : List Int}
theorem CSt.ext (h : CSt w B g ks vR vC vK p T wk) (hx : Ext w w') : CSt w' B g ks vR vC vK p T wk := ⟨h.box.ext hx, h.row.ext hx, Q34 h.wk hx, h.tok, h.hg, h.hk⟩
theorem CSt.size (h : CSt w B g ks vR vC vK p T wk) : B ≤ w.heap.size := by have := h.box.lt; have := h.hg; omega
theorem CSt.cells (h : CSt w B g ks vR vC vK p T wk) : (w.cell? ⟨g, 0, none⟩ = some vR ∧ w.frozen? ⟨g, 0, none⟩ = false) ∧ (w.cell? ⟨g, 1, none⟩ = some vC ∧ w.frozen? ⟨g, 1, none⟩ = false) ∧
  (w.cell? ⟨g, 2, none⟩ = some (.slice (some ⟨ks, 0, none⟩) p.code.length p.code.length) ∧ w.frozen? ⟨g, 2, none⟩ = false) ∧ (w.cell? ⟨g, 3, none⟩ = some vK ∧ w.frozen? ⟨g, 3, none⟩ = false) := by
 refine ⟨⟨?_, h.box.frozen _⟩, ⟨?_, h.box.frozen _⟩, ⟨?_, h.box.frozen _⟩, ⟨?_, h.box.frozen _⟩⟩ <;> (rw [h.box.cell]; rfl)
theorem CSt.put (h : CSt w B g ks vR vC vK p T wk) {k at_ : Nat} {s : KSt} (hat : at_ < p.code.length) (hB : B ≤ k) (hk : Blk w k 80 (stV s)) (hs : Sok s) :
  CSt (w.setCell ⟨ks, at_, none⟩ (.pointer (some ⟨k, 0, none⟩))) B g ks vR vC vK p (T.set at_ (some s)) wk := by
 obtain ⟨R, r1, r2, r3⟩ := h.row
 refine ⟨h.box.far (p := ⟨ks, at_, none⟩) (Blk.ne_ h.box r1 (by decide)) _, h.row.put h.tok.len hat hB hk, Q1e h.wk (Q09 h.wk r1 (by decide)) _, ⟨by simpa using h.tok.len, fun j u hu => ?_⟩, h.hg, h.hk⟩
 rw [Q69] at hu
 split at hu
 ·simp only [Option.some.injEq] at hu; subst hu; exact hs
 ·exact h.tok.ok j u hu
theorem CSt.work (h : CSt w B g ks vR vC vK p T wk) {vK' : Value} {wk' : List Int} (hg : w.grownBy w' vK.ownBlock) (ho : w'.ownsRow B 3 1 vK' wk'.length (wk'.map (Value.int .i64))) :
  CSt (w'.setCell ⟨g, 3, none⟩ vK') B g ks vR vC vK' p T wk' := by
 have hb := h.box.grown hg (Q09 h.wk h.box (by decide))
 have hne : some g ≠ vK'.ownBlock := Q09 ho hb (by decide)
 exact ⟨hb.set_ 3 vK', (h.row.grown h.wk hg).far (p := ⟨g, 3, none⟩) hb (by decide) (by decide) _, Q1e ho hne _, h.tok, h.hg, h.hk⟩
theorem CSt.row_at (h : CSt w B g ks vR vC vK p T wk) {j : Nat} (hj : j < p.code.length) : (tg T j = none → w.cell? ⟨ks, j, none⟩ = some (.pointer none) ∧ w.frozen? ⟨ks, j, none⟩ = false) ∧
  (∀ s, tg T j = some s → ∃ k, (w.cell? ⟨ks, j, none⟩ = some (.pointer (some ⟨k, 0, none⟩)) ∧ w.frozen? ⟨ks, j, none⟩ = false) ∧ B ≤ k ∧ Blk w k 80 (stV s)) := by
 obtain ⟨R, r1, r2, r3⟩ := h.row
 have := r3 j hj
 refine ⟨fun ht => ?_, fun s ht => ?_⟩
 ·rw [ht] at this
  exact ⟨by rw [r1.cell, this], r1.frozen _⟩
 ·rw [ht] at this
  obtain ⟨k, e1, e2, e3⟩ := this
  exact ⟨k, ⟨by rw [r1.cell, e1], r1.frozen _⟩, e2, e3⟩
end
def Q4o (p : Q01) (T : Tab) (at_ : Nat) (s : KSt) : Tab := if p.code.length ≤ at_ then T else Q12 T (at_, s)
def Q4e (p : Q01) (T : Tab) (wk : List Int) (at_ : Nat) (s : KSt) : List Int :=
 if p.code.length ≤ at_ then wk else match tg T at_ with
  | none => wk ++ [(at_ : Int)]
  | some t => if Q0w s t = t then wk else wk ++ [(at_ : Int)]
end Go.Proofs.Yteiknefajlocoaa

namespace Go.Proofs.Yteiknefajlocoaa
open Go.ChangeShapes Go.WideShapes Go.ChangeAt Go.RowKit
theorem infoState' : (Try.prog.info? 80).map (·.size) = some 16 := by kernel_rfl
theorem Qqw {o : Oper} {a : Act} {x : Operand} {w : World} {g : Nat} {s : KSt} (ho : o.op = .load 80 x) (hx : a.eval x = .pointer (some ⟨g, 0, none⟩)) (hb : Blk w g 80 (stV s)) (hl : s.length = 8) :
  (execOp a.eval o).run Try.prog w = .ok (.value (.agg (stV s))) w := by
 have h := run_loadVar_mid (P := Try.prog) w g 0 80 (stV s).toList _ (hb.range 0 _ (fun j v hv => by simpa using hv)) Try.underlying80 rfl (by rw [Array.length_toList, Q11 hl]; exact infoState')
 unfold execOp
 simp only [ho, hx, Instr.loadAt, Instr.sureAddr, Sem.run_bind, Sem.run_pure, Result.andThen_ok, h, Array.toArray_toList]
section
variable {ops : Array Oper} {W : World} {i0 k : Nat} {mk : Nat → Value} {T : TypeId} {cs : Array Value} {Qa : Act → Prop} {o : Oper} {rest : List Oper} {a : Act} {g : Nat} {s : KSt} {hs : List Nat}
theorem Qcy (hk : k ≠ i0) (hw : Region.wanted o (yielded ops a.tmps) = true) (ho : ∃ x, o.op = .load 80 x ∧ a.eval x = .pointer (some ⟨g, 0, none⟩)) (hb : Blk W g 80 (stV s)) (hl : s.length = 8)
  (h : Q30 Try.prog ops W i0 mk T cs Qa (k + 1) rest (a.put o.dst (.agg (stV s)))) : Q30 Try.prog ops W i0 mk T cs Qa k (o :: rest) a :=
 by
 obtain ⟨x, ho, hx⟩ := ho
 exact Q0l hk hw ⟨_, fun _ hE => Qqw ho hx (hb.ext hE) hl, h⟩
end
end Go.Proofs.Yteiknefajlocoaa

namespace Go.Proofs.Yteiknefajlocoaa
open Go.ChangeShapes Go.WideShapes Go.ChangeAt Go.RowKit
set_option linter.unusedVariables false
set_option linter.unusedSimpArgs false
theorem Qgt {oa : Option Addr} {n b o cap : Nat} (h : 0 < n → oa = some ⟨b, o, none⟩) (W : World) (i : Int) (h0 : 0 ≤ i) (h1 : i < n) :
  (Instr.indexAt 34 (.slice oa n cap) (.int .i64 i)).run Try.prog W = .ok (.pointer (some ⟨b, o + i.toNat * 3, none⟩)) W := by
 obtain rfl := h (by omega)
 have hs : (Try.prog.info? 98).map (·.size) = some 3 := by kernel_rfl
 simp [Instr.indexAt, run_underlying Try.underlying34, asIntOf, h0, h1]
 exact Q3n b o _
theorem Qk4 (a b c : Int) (w : World) : (binOp .neq 98 (.agg #[.int .i64 a, .int .i64 b, .int .i64 c]) (.agg #[.int .i64 a, .int .i64 b, .int .i64 c])).run Try.prog w = .ok (.bool false) w := by
 go_simp
set_option maxHeartbeats 2000000 in
theorem Qlr (l : List LSee) (v u : Value) (w : World) (hv : Q7e w v l) (hu : Q7e w u l) :
  Calls Try.prog 68 #[v, u] w fun e w' => e = .returned (.bool true) ∧ Ext w w' := by
 obtain ⟨oa, cap, b, o, rfl, hc1, hc2, hrow⟩ := hv
 obtain ⟨ob, capb, b2, o2, rfl, hd1, hd2, hrow2⟩ := hu
 have hlen := Q1i hc1 hc2
 have hix := Qgt (cap := cap) hrow.at_
 have hix2 := Qgt (cap := capb) hrow2.at_
 have Hrow := Lib.hid hrow
 have Hrow2 := Lib.hid hrow2
 have hne := Qk4
 have hq1 : ((l.length : Int) != (l.length : Int)) = false := by simp
 clear hrow hrow2 hc1 hc2 hd1 hd2
 go_enter Try.func68, Try.ntmps68
 go_wp2_with fail
 go_loopw [5] (fun i wr => ∃ j : Nat, j ≤ l.length ∧ i = .int .i64 j ∧ Ext w wr) (fun i _ => l.length - (intOf i).toNat)
 case atStart => exact ⟨0, by omega, rfl, Ext.refl _⟩
 case round =>
  obtain ⟨j, hj, rfl, hE⟩ := hrel
  have X := Lib.hid hE
  clear hE
  by_cases hlt : j < l.length
  ·obtain ⟨e0, e1, e2⟩ := (Hrow.out.ext X.out).see j hlt
   obtain ⟨f0, f1, f2⟩ := (Hrow2.out.ext X.out).see j hlt
   generalize l.getD j default = x at *
   have k0 : ∀ W, Ext wr W → W.cell? ⟨b, o + j * 3, none⟩ = some (.int .i64 x.kind) := fun _ h => h.kept e0
   have k1 : ∀ W, Ext wr W → W.cell? ⟨b, o + j * 3 + 1, none⟩ = some (.int .i64 x.a) := fun _ h => h.kept e1
   have k2 : ∀ W, Ext wr W → W.cell? ⟨b, o + j * 3 + 2, none⟩ = some (.int .i64 x.b) := fun _ h => h.kept e2
   have l0 : ∀ W, Ext wr W → W.cell? ⟨b2, o2 + j * 3, none⟩ = some (.int .i64 x.kind) := fun _ h => h.kept f0
   have l1 : ∀ W, Ext wr W → W.cell? ⟨b2, o2 + j * 3 + 1, none⟩ = some (.int .i64 x.a) := fun _ h => h.kept f1
   have l2 : ∀ W, Ext wr W → W.cell? ⟨b2, o2 + j * 3 + 2, none⟩ = some (.int .i64 x.b) := fun _ h => h.kept f2
   clear e0 e1 e2 f0 f1 f2
   go_upto_region 6 with fail
   refine Q0z 9 (by kernel_rfl) (by kernel_rfl) ?_
   simp only [List.take_succ_cons, List.take_zero, List.drop_succ_cons, List.drop_zero]
   repeat (first | (refine Q0r ?_ ?_ (fun wc hE => ?_) ?_; (decide); rfl; (focus (go_simp; done)); go_simp) | (refine Q0l ?_ ?_ ?_; (decide); (first | rfl | (focus (go_simp; done))); apply Exists.intro; refine ⟨fun wc hE => ?_, ?_⟩; (go_simp; exact rfl); go_simp) | (refine Q0s ?_ ?_ ?_; (decide); (first | rfl | (focus (go_simp; done))); apply Exists.intro; refine ⟨fun wc hE => ?_, ?_⟩; (go_simp; (first | fail)); go_simp) | (refine Q0p ?_ ?_ ?_; (decide); (focus (go_simp; done)); go_simp))
   refine Q0q ?_
   intro wx hx
   have X := Lib.hid (X.out.trans hx)
   clear hx k0 k1 k2 l0 l1 l2
   go_wp2
   go_roundw
   case rel => exact ⟨j + 1, by omega, by go_num, X.out⟩
   case measure => first | (simp [intOf]; done) | (simp [intOf]; omega)
  ·go_wp2
   go_ret
   exact ⟨rfl, X.out⟩
theorem Qgz {p q : Q01} {m : List (List Int)} (h : q.regs = p.regs) (hf : Q2g p m = true) : Q2g q m = true := by
 unfold Q2g at hf ⊢
 rw [h]
 exact hf
theorem Q8l {w : World} {v : Value} {p : Q01} (h : Q07 w v p) : ∃ a b c d, v = .agg #[.slice a p.regs.length b, .slice c p.code.length d] ∧ Q67 w (.slice a p.regs.length b) p.regs ∧ Q7f w (.slice c p.code.length d) p.code := by
 obtain ⟨v1, v2, rfl, h1, h2⟩ := h
 have g1 := h1
 have g2 := h2
 obtain ⟨-, oa, cap, b, o, rfl, -⟩ := h1
 obtain ⟨-, ob, capb, b2, o2, rfl, -⟩ := h2
 exact ⟨_, _, _, _, rfl, g1, g2⟩
def KnAt (w : World) (B : Nat) (v : Value) (s : KSt) : Prop :=
 s.length = 8 ∧ ∃ b cap R, v = .slice (some ⟨b, 0, none⟩) 8 cap ∧ 8 ≤ cap ∧ cap ≤ maxLen ∧ B ≤ b ∧ Blk w b 78 R ∧ ∀ j, j < 16 → R[j]? = (stV s)[j]?
theorem KnAt.ext {w w' : World} {B : Nat} {v : Value} {s : KSt} (h : KnAt w B v s) (hx : Ext w w') : KnAt w' B v s := by
 obtain ⟨h0, b, cap, R, h1, h2, h3, h4, h5, h6⟩ := h
 exact ⟨h0, b, cap, R, h1, h2, h3, h4, h5.ext hx, h6⟩
theorem KnAt.mono {w : World} {B B' : Nat} {v : Value} {s : KSt} (h : KnAt w B v s) (hB : B' ≤ B) : KnAt w B' v s := by
 obtain ⟨h0, b, cap, R, h1, h2, h3, h4, h5, h6⟩ := h
 exact ⟨h0, b, cap, R, h1, h2, h3, by omega, h5, h6⟩
theorem KnAt.own {w : World} {B : Nat} {v : Value} {s : KSt} (hl : s.length = 8) (h : w.ownsRow B 78 2 v 8 (s.flatMap Q4h)) : KnAt w B v s := by
 refine ⟨hl, ?_⟩
 obtain ⟨h0, ⟨-, h1⟩ | ⟨g, cap, cur, rfl, h1, h2, h3, h4, h5, h6⟩⟩ := h
 ·omega
 ·refine ⟨g, cap, cur, rfl, h3, h4, h1, h2, fun j hj => ?_⟩
  unfold stV
  rw [← h6]
  simp only [List.getElem?_toArray]
  rw [List.getElem?_take_of_lt (by omega)]
  simp
theorem KnAt.form {w : World} {B : Nat} {v : Value} {s : KSt} (h : KnAt w B v s) : ∃ b cap, v = .slice (some ⟨b, 0, none⟩) 8 cap ∧ 8 ≤ cap ∧ cap ≤ maxLen ∧ B ≤ b := by
 obtain ⟨h0, b, cap, R, h1, h2, h3, h4, h5, h6⟩ := h
 exact ⟨b, cap, h1, h2, h3, h4⟩
section
variable {w : World} {B b cap : Nat} {s : KSt}
theorem KnAt.cell (h : KnAt w B (.slice (some ⟨b, 0, none⟩) 8 cap) s) {a : Int} (ha : okIn 8 a = true) :
  (w.cell? ⟨b, a.toNat * 2, none⟩ = some (.int .i64 (kg s a).bits) ∧ w.frozen? ⟨b, a.toNat * 2, none⟩ = false) ∧ (w.cell? ⟨b, a.toNat * 2 + 1, none⟩ = some (.bool (kg s a).sec) ∧ w.frozen? ⟨b, a.toNat * 2 + 1, none⟩ = false) := by
 obtain ⟨h0, b', cap', R, h1, h2, h3, h4, h5, h6⟩ := h
 simp only [Value.slice.injEq, Option.some.injEq, Addr.mk.injEq, and_true, true_and] at h1
 obtain ⟨rfl, rfl⟩ := h1
 obtain ⟨k0, k1⟩ := Q05.1 ha
 obtain ⟨g1, g2⟩ := Qdq h0 (a := a) (by omega)
 exact ⟨⟨by rw [h5.cell, h6 _ (by omega), g1], h5.frozen _⟩, ⟨by rw [h5.cell, h6 _ (by omega), g2], h5.frozen _⟩⟩
theorem KnAt.put (h : KnAt w B (.slice (some ⟨b, 0, none⟩) 8 cap) s) {a : Int} (ha : okIn 8 a = true) (x : LKn) :
  KnAt ((w.setCell ⟨b, a.toNat * 2, none⟩ (.int .i64 x.bits)).setCell ⟨b, a.toNat * 2 + 1, none⟩ (.bool x.sec)) B (.slice (some ⟨b, 0, none⟩) 8 cap) (kset s a x) := by
 obtain ⟨h0, b', cap', R, h1, h2, h3, h4, h5, h6⟩ := h
 simp only [Value.slice.injEq, Option.some.injEq, Addr.mk.injEq, and_true, true_and] at h1
 obtain ⟨rfl, rfl⟩ := h1
 obtain ⟨k0, k1⟩ := Q05.1 ha
 have hs := Q11 h0
 have hR : 16 ≤ R.size := by
  have := h6 15 (by omega)
  rcases Nat.lt_or_ge 15 R.size with h | h
  ·omega
  ·rw [Array.getElem?_eq_none h, Array.getElem?_eq_getElem (by omega)] at this
   cases this
 refine ⟨by simpa [kset] using h0, b, cap, _, rfl, h2, h3, h4, (h5.set_ _ _).set_ _ _, fun j hj => ?_⟩
 rw [← Qdp h0 (by omega) x]
 rw [Array.getElem?_setIfInBounds, Array.getElem?_setIfInBounds, Array.getElem?_setIfInBounds, Array.getElem?_setIfInBounds]
 simp only [Array.size_setIfInBounds]
 repeat' split
 all_goals first | rfl | omega | exact h6 j hj
theorem KnAt.far {v : Value} (h : KnAt w B v s) {p : Addr} {t : TypeId} {cs : Array Value} (hp : Blk w p.block t cs) (h1 : t ≠ 78) (u : Value) : KnAt (w.setCell p u) B v s := by
 obtain ⟨h0, b', cap', R, e1, h2, h3, h4, h5, h6⟩ := h
 exact ⟨h0, b', cap', R, e1, h2, h3, h4, h5.far (Blk.ne_ h5 hp (fun e => h1 e.symm)) u, h6⟩
end
theorem Q25 (b cap : Nat) (W : World) (i : Int) (h0 : 0 ≤ i) (h1 : i < 8) :
  (Instr.indexAt 85 (.slice (some ⟨b, 0, none⟩) 8 cap) (.int .i64 i)).run Try.prog W = .ok (.pointer (some ⟨b, i.toNat * 2, none⟩)) W := by
 have hs : (Try.prog.info? 78).map (·.size) = some 2 := by kernel_rfl
 simp [Instr.indexAt, run_underlying Try.underlying85, asIntOf, h0, h1]
 have := Q3n b 0 (i.toNat * 2)
 simpa using this
def Q4k (w : World) (B : Nat) (v : Value) (l : List (Nat × KSt)) : Prop :=
 ∃ oa cap b, v = .slice oa l.length cap ∧ l.length ≤ cap ∧ cap ≤ maxLen ∧ B ≤ b ∧ (0 < l.length → oa = some ⟨b, 0, none⟩) ∧ ∃ vs : Nat → Value, ∀ k, k < l.length →
  w.cell? ⟨b, k * 3, none⟩ = some (.int .i64 ((l.getD k default).1 : Int)) ∧ w.cell? ⟨b, k * 3 + 1, none⟩ = some (.bool true) ∧ w.cell? ⟨b, k * 3 + 2, none⟩ = some (vs k) ∧ KnAt w B (vs k) (l.getD k default).2
theorem Q4k.ext {w w' : World} {B : Nat} {v : Value} {l : List (Nat × KSt)} (h : Q4k w B v l) (hx : Ext w w') : Q4k w' B v l := by
 obtain ⟨oa, cap, b, h1, h2, h3, hB, h4, vs, h5⟩ := h
 refine ⟨oa, cap, b, h1, h2, h3, hB, h4, vs, fun k hk => ?_⟩
 obtain ⟨e1, e2, e3, e4⟩ := h5 k hk
 exact ⟨hx.kept e1, hx.kept e2, hx.kept e3, e4.ext hx⟩
theorem KnAt.low {w : World} {B : Nat} {v : Value} {s : KSt} (h : KnAt w B v s) {p : Addr} (hp : p.block < B) (u : Value) : KnAt (w.setCell p u) B v s := by
 obtain ⟨h0, b', cap', R, e1, h2, h3, h4, h5, h6⟩ := h
 exact ⟨h0, b', cap', R, e1, h2, h3, h4, h5.far (by omega) u, h6⟩
theorem Q4k.low {w : World} {B : Nat} {v : Value} {l : List (Nat × KSt)} (h : Q4k w B v l) {p : Addr} (hp : p.block < B) (u : Value) : Q4k (w.setCell p u) B v l := by
 obtain ⟨oa, cap, b, h1, h2, h3, hB, h4, vs, h5⟩ := h
 refine ⟨oa, cap, b, h1, h2, h3, hB, h4, vs, fun k hk => ?_⟩
 obtain ⟨e1, e2, e3, e4⟩ := h5 k hk
 have hne : ∀ o : Nat, p ≠ ⟨b, o, none⟩ := fun o e => by rw [e] at hp; simp only at hp; omega
 exact ⟨by rw [World.cell?_setCell_other _ _ _ _ (hne _)]; exact e1, by rw [World.cell?_setCell_other _ _ _ _ (hne _)]; exact e2, by rw [World.cell?_setCell_other _ _ _ _ (hne _)]; exact e3, e4.low hp u⟩
def Q48 (w : World) (ks n : Nat) (T : Tab) : Prop :=
 ∃ R : Array Value, Blk w ks 87 R ∧ R.size = n * 2 ∧ ∀ j, j < n → match tg T j with
  | none => R[j * 2]? = some (.bool false) ∧ R[j * 2 + 1]? = some (.slice none 0 0)
  | some s => R[j * 2]? = some (.bool true) ∧ ∃ v, R[j * 2 + 1]? = some v ∧ KnAt w 0 v s
theorem Q48.ext {w w' : World} {ks n : Nat} {T : Tab} (h : Q48 w ks n T) (hx : Ext w w') : Q48 w' ks n T := by
 obtain ⟨R, h1, h2, h3⟩ := h
 refine ⟨R, h1.ext hx, h2, fun j hj => ?_⟩
 have := h3 j hj
 cases ht : tg T j with
 | none => rw [ht] at this; exact this
 | some s =>
  rw [ht] at this
  obtain ⟨e1, v, e2, e3⟩ := this
  exact ⟨e1, v, e2, e3.ext hx⟩
theorem Q48.put {w : World} {ks n at_ : Nat} {T : Tab} {s : KSt} {v : Value} (h : Q48 w ks n T) (hT : T.length = n) (hat : at_ < n) (hk : KnAt w 0 v s) :
  Q48 ((w.setCell ⟨ks, at_ * 2, none⟩ (.bool true)).setCell ⟨ks, at_ * 2 + 1, none⟩ v) ks n (T.set at_ (some s)) := by
 obtain ⟨R, h1, h2, h3⟩ := h
 have far : ∀ {v' : Value} {u : KSt}, KnAt w 0 v' u → KnAt ((w.setCell ⟨ks, at_ * 2, none⟩ (.bool true)).setCell ⟨ks, at_ * 2 + 1, none⟩ v) 0 v' u := fun hb =>
  (hb.far (p := ⟨ks, at_ * 2, none⟩) h1 (by decide) _).far (p := ⟨ks, at_ * 2 + 1, none⟩) (h1.set_ _ _) (by decide) _
 refine ⟨_, (h1.set_ _ _).set_ _ _, by simpa using h2, fun j hj => ?_⟩
 rw [Q69]
 by_cases e : at_ = j
 ·subst e
  rw [if_pos ⟨rfl, by omega⟩]
  refine ⟨?_, v, ?_, far hk⟩
  ·rw [Array.getElem?_setIfInBounds_ne (by omega), Array.getElem?_setIfInBounds_self_of_lt (by omega)]
  ·rw [Array.getElem?_setIfInBounds_self_of_lt (by simp; omega)]
 ·rw [if_neg (by omega)]
  have := h3 j hj
  cases ht : tg T j with
  | none =>
   rw [ht] at this
   rw [Array.getElem?_setIfInBounds_ne (by omega), Array.getElem?_setIfInBounds_ne (by omega), Array.getElem?_setIfInBounds_ne (by omega), Array.getElem?_setIfInBounds_ne (by omega)]
   exact this
  | some u =>
   rw [ht] at this
   obtain ⟨e1, v', e2, e3⟩ := this
   refine ⟨?_, v', ?_, far e3⟩
   ·rw [Array.getElem?_setIfInBounds_ne (by omega), Array.getElem?_setIfInBounds_ne (by omega)]; exact e1
   ·rw [Array.getElem?_setIfInBounds_ne (by omega), Array.getElem?_setIfInBounds_ne (by omega)]; exact e2
def ten : Array Value := regV (List.replicate 10 0)
theorem Qo8 (W : World) : (Instr.makeSlice 71 (.int .i64 10) (.int .i64 10)).run Try.prog W = .ok (.slice (some ⟨W.heap.size, 0, none⟩) 10 10) (W.alloc (.cells ten 2)) := by kernel_rfl
end Go.Proofs.Yteiknefajlocoaa
