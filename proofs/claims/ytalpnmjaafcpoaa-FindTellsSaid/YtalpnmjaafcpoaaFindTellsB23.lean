/- Laid together from: Ref3a, Ref3b, Ref3c, Seq1, RegW, Fam. -/
import Derived.Test.YtalpnmjaafcpoaaFindTellsB20
import Derived.Test.YtalpnmjaafcpoaaFindTellsB16
import Derived.Test.YtalpnmjaafcpoaaFindTellsB18
import Derived.Test.YtalpnmjaafcpoaaFindTellsB6
import Derived.Test.YtalpnmjaafcpoaaFindTellsB10

namespace Go.Proofs.Ytalpnmjaafcpoaa
open Go.ChangeShapes Go.WideShapes Go.ChangeAt Go.RowKit
set_option linter.unusedVariables false
set_option linter.unusedSimpArgs false
def insV (i : LIns) : Value := .agg #[.int .i64 i.op, .int .i64 i.a, .int .i64 i.b, .int .i64 i.c, .int .i64 i.n]
def putV (op : Int) : Int := if op = 3 ∨ op = 5 then 0 else if op = 4 ∨ op = 6 then 1 else -1
theorem Qhh {oa : Option Addr} {n b o cap : Nat} (h : 0 < n → oa = some ⟨b, o, none⟩) (W : World) (i : Int) (h0 : 0 ≤ i) (h1 : i < n) :
  (Instr.indexAt 52 (.slice oa n cap) (.int .i64 i)).run Try.prog W = .ok (.pointer (some ⟨b, o + i.toNat, none⟩)) W := by
 obtain rfl := h (by omega)
 have hs : (Try.prog.info? 52).isSome = true := by kernel_rfl
 have hs : (Try.prog.info? 2).map (·.size) = some 1 := by kernel_rfl
 simp [Instr.indexAt, run_underlying Try.underlying52, asIntOf, h0, h1]
 exact Q36 b o _
theorem Q1v (W : World) (k n cap : Nat) (i : Int) (h0 : 0 ≤ i) (h1 : i < n) :
  (Instr.indexAt 52 (.slice (some ⟨k, 0, none⟩) n cap) (.int .i64 i)).run Try.prog W = .ok (.pointer (some ⟨k, i.toNat, none⟩)) W := by
 have := Qhh (oa := some ⟨k, 0, none⟩) (n := n) (b := k) (o := 0) (cap := cap) (fun _ => rfl) W i h0 h1
 simpa using this
theorem Q8i : (Try.prog.info? 79).map (fun i => (i.zero, i.size, i.bytes)) = some (some (.agg #[.int .i64 0, .int .i64 0, .int .i64 0]), 3, 24) := by kernel_rfl
theorem Q4w : (Try.prog.info? 2).map (fun i => (i.zero, i.size, i.bytes)) = some (some (.int .i64 0), 1, 8) := by kernel_rfl
theorem Qem (i : LIns) (w : World) :
  Calls Try.prog 45 #[insV i] w fun e w' => e = .returned (.int .i64 (putV i.op)) ∧ Ext w w' := by
 obtain ⟨op, a, b, c, n⟩ := i
 unfold insV
 simp only
 by_cases h3 : op = 3
 ·subst h3
  go_enter Try.func45, Try.ntmps45
  go_wp2
  go_ret
  exact ⟨Q14 (by decide), (Ext.refl _).alloc _⟩
 by_cases h5 : op = 5
 ·subst h5
  go_enter Try.func45, Try.ntmps45
  go_wp2
  go_ret
  exact ⟨Q14 (by decide), (Ext.refl _).alloc _⟩
 by_cases h4 : op = 4
 ·subst h4
  go_enter Try.func45, Try.ntmps45
  go_wp2
  go_ret
  exact ⟨Q14 (by decide), (Ext.refl _).alloc _⟩
 by_cases h6 : op = 6
 ·subst h6
  go_enter Try.func45, Try.ntmps45
  go_wp2
  go_ret
  exact ⟨Q14 (by decide), (Ext.refl _).alloc _⟩
 have Hv : Hid (putV op = -1) := Lib.hid (by unfold putV; rw [if_neg (by omega), if_neg (by omega)])
 have b3 : (op == 3) = false := by simpa using h3
 have b5 : (op == 5) = false := by simpa using h5
 have b4 : (op == 4) = false := by simpa using h4
 have b6 : (op == 6) = false := by simpa using h6
 clear h3 h5 h4 h6
 go_enter Try.func45, Try.ntmps45
 go_wp2
 go_ret
 exact ⟨Q14 Hv.out.symm, (Ext.refl _).alloc _⟩
set_option maxHeartbeats 1000000 in
theorem Qak (p : Q01) (c : Int) (v : Value) (w : World) (hp : Q10 w v p) (hr : Q0h p.regs = true) (h0 : 0 ≤ c) (h1 : c.toNat < p.regs.length) :
  Calls Try.prog 28 #[v, .int .i64 c] w fun e w' => e = .returned (.int .i64 (Q0k p c.toNat : Nat)) ∧ Ext w w' := by
 obtain ⟨v1, v2, rfl, ⟨hb, oa, cap, b, o, rfl, hc1, hc2, hrow⟩, ⟨-, ob, capb, b2, o2, rfl, -⟩⟩ := hp
 have hlen := Q44 hr
 have Hlog := Lib.hid (Q4p hr)
 have hix := Q32 (cap := cap) hrow.at_
 have Hrow := Lib.hid hrow
 have Htot := Lib.hid (Q42 hr)
 have Hr := Lib.hid hr
 clear hrow hc1 hc2 hb hr
 obtain ⟨m, rfl⟩ : ∃ m : Nat, c = (m : Int) := ⟨c.toNat, by omega⟩
 simp only [Int.toNat_natCast] at *
 go_enter Try.func28, Try.ntmps28
 go_wp2_with fail
 obtain ⟨W, g, hg, hW, hx, bA⟩ := Q34 w #[.slice oa p.regs.length cap, .slice ob p.code.length capb] 25
 rw [hW, hg]
 have X := Lib.hid hx
 clear hW hg hx
 go_loopw [5, 6] (fun n i wr => ∃ j : Nat, j ≤ m ∧ i = .int .i64 j ∧ n = .int .i64 (Q0k p j : Nat) ∧ Ext W wr) (fun _ i _ => m - (intOf i).toNat)
 case atStart => exact ⟨0, by omega, rfl, by rw [Qbq]; rfl, Ext.refl _⟩
 case round =>
  obtain ⟨j, hj, rfl, rfl, hE⟩ := hrel
  have bA := bA.ext hE
  have XE := Lib.hid hE
  have X := Lib.hid (X.out.trans hE)
  clear hE
  by_cases hlt : j < m
  ·have hjr : j < p.regs.length := by omega
   obtain ⟨e0, e1⟩ := (Hrow.out.ext X.out).reg j hjr
   have Hlg := Lib.hid (Hlog.out _ (Q1f hjr))
   have Hbs := Lib.hid (Qbr p hjr)
   have hbt := Q8w p j
   have hbt2 := Q8w p (j + 1)
   have htt := Htot.out
   generalize p.regs.getD j default = r at *
   have hw6 : Q09 r ≤ 64 := Q4i r Hlg.out.2
   have a0 : wr.cell? ⟨g, 0, none⟩ = some (.slice oa p.regs.length cap) := by rw [bA.cell]; rfl
   go_wp2_with fail
   (with_reducible refine (Q55 r Hlg.out.1 Hlg.out.2 wr).mono ?_)
   rintro e w2 ⟨rfl, hx⟩
   have XE := Lib.hid (XE.out.trans hx)
   clear hx a0 e0 e1
   go_wp2
   go_roundw
   case rel => exact ⟨j + 1, by omega, by go_num, by rw [Hbs.out]; go_num, XE.out⟩
   case measure => first | (simp [intOf]; done) | (simp [intOf]; omega)
  ·have hje : j = m := by omega
   subst hje
   have hlt2 : decide ((j : Int) < (j : Int)) = false := by simp
   go_wp2
   go_ret
   exact ⟨rfl, X.out⟩
theorem Q2t {l : List Int} {i : LIns} (h : ¬ (i.op = 29 ∨ i.op = 30)) : Q12 l i = [] := by unfold Q12; rw [if_neg h]
theorem index_mem' {oa : Option Addr} {n b o cap : Nat} (h : 0 < n → oa = some ⟨b, o, none⟩) (W : World) (i : Int) (h0 : 0 ≤ i) (h1 : i < n) :
  (Instr.indexAt 26 (.slice oa n cap) (.int .i64 i)).run Try.prog W = .ok (.pointer (some ⟨b, o + i.toNat, none⟩)) W := by
 obtain rfl := h (by omega)
 have hs : (Try.prog.info? 52).map (·.size) = some 1 := by kernel_rfl
 simp [Instr.indexAt, run_underlying Try.underlying26, asIntOf, h0, h1]
 exact Q36 b o _
theorem Q6y : (Try.prog.info? 52).map (fun i => (i.zero, i.size, i.bytes)) = some (some (.slice none 0 0), 1, 24) := by kernel_rfl
section
variable {w0 wr w' : World} {U gs k : Nat} {vS vM : Value} {fin value : Int} {steps : Nat} {regs : List Int} {seen : List LSee} {mem : List (List Int)}
end
theorem Q1q.far {w : World} {B U : Nat} {T E : TypeId} {v : Value} {m : List (List Int)} (h : Q1q w B U T E v m) {p : Addr} (hp : p.block < B) (u : Value) : Q1q (w.setCell p u) B U T E v m := by
 obtain ⟨vs, h1, h2, h3, h4, h5⟩ := h
 have key : ∀ {e : TypeId} {s n : Nat} {v : Value} {xs : List Value}, w.ownsRow B e s v n xs → (w.setCell p u).ownsRow B e s v n xs := fun ho =>
  Q0o ho (fun e => by have := Q1u ho _ e.symm; omega) u
 exact ⟨vs, h1, key h2, h3, fun i hi => ⟨key (h4 i hi).1, (h4 i hi).2⟩, h5⟩
structure MOk (p : Q01) (M : Mach) : Prop where
 len : M.regs.length = 10
 r64 : Q0v M.regs
 wlen : M.words.length = Q0b p
 w64 : Q0v M.words
theorem MOk.step {p : Q01} {M : Mach} {i : LIns} (h : MOk p M) (hi : i.fits) : MOk p (Q9l p i M) := by
 unfold Q9l
 obtain ⟨h1, h2, h3, h4⟩ := h
 simp only
 repeat' split
 all_goals first
  | exact ⟨h1, h2, h3, h4⟩
  | exact ⟨h1, h2, by simpa using h3, h4.set _ (h2 _)⟩
  | exact ⟨by rw [Q43]; exact h1, h2.rset _ (h4 _), h3, h4⟩
  | exact ⟨by rw [Q88]; exact h1, Qbt h2 hi.2.2.2.2, h3, h4⟩
theorem Q90 {l : List Int} (h : ∀ x ∈ l, R64 x) : Q0v l := fun n => by
 by_cases hn : n < l.length
 ·have : l.getD n 0 = l[n] := by simp [hn]
  rw [this]; exact h _ (List.getElem_mem hn)
 ·rw [List.getD_eq_getElem?_getD, List.getElem?_eq_none (by omega)]
  exact Q56
theorem Q0v.mem {l : List Int} (h : Q0v l) : ∀ x ∈ l, R64 x := fun x hx => by
 obtain ⟨n, hn, rfl⟩ := List.getElem_of_mem hx
 have := h n
 simpa [hn] using this
theorem Q9d {p : Q01} {i : LIns} (hok : Q00 p 10 i = true) (h : i.op = 3 ∨ i.op = 4 ∨ i.op = 5 ∨ i.op = 6) : okIn 10 i.a = true ∧ okIn 10 i.b = true ∧ 0 ≤ i.c ∧ i.c.toNat < p.regs.length := by
 have hr : (Q15 i || Q28 i) = true := by unfold Q15 Q28; rcases h with h | h | h | h <;> simp [h]
 have hc := Qe9 hok hr
 refine ⟨?_, ?_, hc⟩ <;> (unfold Q00 at hok; rcases h with h | h | h | h <;> simp [h, okIn] at hok ⊢ <;> omega)
structure Turn (S : Nat → Prop) (w w' : World) : Prop where
 os : w'.os = w.os
 tape : w'.tape = w.tape
 output : w'.output = w.output
 size : w.heap.size ≤ w'.heap.size
 block : ∀ j, j < w.heap.size → ¬ S j → w'.heap[j]? = w.heap[j]?
section
variable {S S' : Nat → Prop} {w w' w'' : World}
theorem Turn.ofExt (h : Ext w w') : Turn S w w' := ⟨h.os, h.tape, h.output, h.size, fun j hj _ => Below.block h j hj⟩
theorem Turn.refl (w : World) : Turn S w w := Turn.ofExt (Ext.refl w)
theorem Turn.trans (h : Turn S w w') (k : Turn S' w' w'') (hs : ∀ j, j < w.heap.size → S' j → S j) : Turn S w w'' :=
 ⟨k.os.trans h.os, k.tape.trans h.tape, k.output.trans h.output, Nat.le_trans h.size k.size, fun j hj hn => (k.block j (Nat.lt_of_lt_of_le hj h.size) (fun e => hn (hs j hj e))).trans (h.block j hj hn)⟩
theorem Turn.ext (h : Turn S w w') (k : Ext w' w'') : Turn S w w'' := h.trans (Turn.ofExt (S := S) k) (fun _ _ e => e)
theorem Turn.grown {row : Option Nat} (h : w.grownBy w' row) : Turn (fun j => row = some j) w w' := ⟨h.os, h.tape, h.output, h.size, fun j hj hn => h.block j hj (fun e => hn e.symm)⟩
theorem Turn.set (w : World) (p : Addr) (u : Value) : Turn (fun j => j = p.block) w (w.setCell p u) := ⟨rfl, rfl, rfl, by simp [World.setCell], fun j hj hn => Below.heap_setCell w p u j hn⟩
theorem Turn.mono (h : Turn S w w') (hs : ∀ j, S j → S' j) : Turn S' w w' := ⟨h.os, h.tape, h.output, h.size, fun j hj hn => h.block j hj (fun e => hn (hs j e))⟩
theorem Turn.below {B : Nat} (h : Turn S w w') (hB : B ≤ w.heap.size) (hs : ∀ j, S j → B ≤ j) : Below B w w' :=
 ⟨h.os, h.tape, h.output, h.size, fun j hj => h.block j (Nat.lt_of_lt_of_le hj hB) (fun e => by have := hs j e; omega)⟩
theorem Blk.turn {g : Nat} {t : TypeId} {cs : Array Value} (h : Blk w g t cs) (ht : Turn S w w') (hn : ¬ S g) : Blk w' g t cs := (ht.block g h.lt hn).trans h
theorem Q30 {base : Nat} {e : TypeId} {size n : Nat} {v : Value} {xs : List Value} (h : w.ownsRow base e size v n xs) (ht : Turn S w w') (hn : ∀ k, v.ownBlock = some k → ¬ S k) : w'.ownsRow base e size v n xs := by
 refine ⟨h.1, ?_⟩
 rcases h.2 with h | ⟨g, cap, cur, rfl, h1, h2, h3⟩
 ·exact .inl h
 ·exact .inr ⟨g, cap, cur, rfl, h1, (ht.block g (Array.getElem?_eq_some_iff.1 h2).1 (hn g rfl)).trans h2, h3⟩
end
def Q0p (vR vC : Value) (fin value : Int) (steps : Nat) (vS vM : Value) (regs : List Int) (vW : Value) (at_ : Nat) (vB : Value) : List Value :=
 [vR, vC, .int .i64 fin, .int .i64 value, .int .i64 steps, vS, vM] ++ (regs.map (Value.int .i64) ++ [vW, .int .i64 at_, vB])
section
variable {vR vC vS vM vW vB u : Value} {fin value x : Int} {steps at_ : Nat} {regs : List Int}
theorem Qb8 (h : regs.length = 10) : (Q0p vR vC fin value steps vS vM regs vW at_ vB).toArray.size = 20 := by simp [Q0p, h]
theorem Qgn (h : regs.length = 10) {a : Int} (ha : a.toNat < 10) : (Q0p vR vC fin value steps vS vM regs vW at_ vB).toArray[7 + a.toNat]? = some (.int .i64 (rg regs a)) := by
 have h2 : a.toNat < regs.length := by omega
 rw [List.getElem?_toArray]
 unfold Q0p
 rw [List.getElem?_append_right (by simp), List.getElem?_append_left (by simp; omega)]
 simp [rg, h2]
theorem Qgi (h : regs.length = 10) {a : Int} (ha : a.toNat < 10) : (Q0p vR vC fin value steps vS vM regs vW at_ vB).toArray.setIfInBounds (7 + a.toNat) (.int .i64 x) = (Q0p vR vC fin value steps vS vM (rset regs a x) vW at_ vB).toArray := by
 have h2 : a.toNat < (regs.map (Value.int .i64)).length := by simp; omega
 rw [List.setIfInBounds_toArray]
 unfold Q0p rset
 rw [List.set_append_right _ _ (by simp), List.set_append_left _ _ (by simp; omega), List.map_set]
 simp
theorem Qgk : (Q0p vR vC fin value steps vS vM regs vW at_ vB).toArray.setIfInBounds 2 (.int .i64 x) = (Q0p vR vC x value steps vS vM regs vW at_ vB).toArray := by simp [Q0p]
theorem Qgf : (Q0p vR vC fin value steps vS vM regs vW at_ vB).toArray.setIfInBounds 3 (.int .i64 x) = (Q0p vR vC fin x steps vS vM regs vW at_ vB).toArray := by simp [Q0p]
theorem Qgg {k : Nat} : (Q0p vR vC fin value steps vS vM regs vW at_ vB).toArray.setIfInBounds 4 (.int .i64 (k : Int)) = (Q0p vR vC fin value k vS vM regs vW at_ vB).toArray := by simp [Q0p]
theorem Qgh : (Q0p vR vC fin value steps vS vM regs vW at_ vB).toArray.setIfInBounds 5 u = (Q0p vR vC fin value steps u vM regs vW at_ vB).toArray := by simp [Q0p]
theorem Qgj : (Q0p vR vC fin value steps vS vM regs vW at_ vB).toArray.setIfInBounds 6 u = (Q0p vR vC fin value steps vS u regs vW at_ vB).toArray := by simp [Q0p]
theorem Qge (h : regs.length = 10) : (Q0p vR vC fin value steps vS vM regs vW at_ vB).toArray.setIfInBounds 17 u = (Q0p vR vC fin value steps vS vM regs u at_ vB).toArray := by simp [Q0p, List.set_append, h]
theorem Qgm (h : regs.length = 10) {k : Nat} : (Q0p vR vC fin value steps vS vM regs vW at_ vB).toArray.setIfInBounds 18 (.int .i64 (k : Int)) = (Q0p vR vC fin value steps vS vM regs vW k vB).toArray := by simp [Q0p, List.set_append, h]
theorem Qgl (h : regs.length = 10) : (Q0p vR vC fin value steps vS vM regs vW at_ vB).toArray.setIfInBounds 19 u = (Q0p vR vC fin value steps vS vM regs vW at_ u).toArray := by simp [Q0p, List.set_append, h]
end
structure MSt (w : World) (B g : Nat) (vR vC vM vB vS vW : Value) (bases : List Int) (M : Mach) : Prop where
 box : Blk w g 58 (Q0p vR vC M.fin M.value M.steps vS vM M.regs vW M.at_ vB).toArray
 sn : w.ownsRow B 79 3 vS M.seen.length (M.seen.flatMap Q2g)
 ws : w.ownsRow B 2 1 vW M.words.length (M.words.map (Value.int .i64))
 bs : w.ownsRow B 3 1 vB bases.length (bases.map (Value.int .i64))
 len : M.regs.length = 10
 hg : B ≤ g
section
variable {w w' : World} {B g : Nat} {vR vC vM vB vS vW : Value} {bases : List Int} {M : Mach}
theorem MSt.size (h : MSt w B g vR vC vM vB vS vW bases M) : B ≤ w.heap.size := by have := h.box.lt; have := h.hg; omega
theorem MSt.ext (h : MSt w B g vR vC vM vB vS vW bases M) (hx : Ext w w') : MSt w' B g vR vC vM vB vS vW bases M :=
 ⟨h.box.ext hx, Q1m h.sn hx, Q1m h.ws hx, Q1m h.bs hx, h.len, h.hg⟩
theorem MSt.gs (h : MSt w B g vR vC vM vB vS vW bases M) : some g ≠ vS.ownBlock := Q06 h.sn h.box (by decide)
theorem MSt.gw (h : MSt w B g vR vC vM vB vS vW bases M) : some g ≠ vW.ownBlock := Q06 h.ws h.box (by decide)
theorem MSt.gb (h : MSt w B g vR vC vM vB vS vW bases M) : some g ≠ vB.ownBlock := Q06 h.bs h.box (by decide)
theorem MSt.put (h : MSt w B g vR vC vM vB vS vW bases M) (i : Nat) (u : Value) {M' : Mach} (h1 : M'.seen = M.seen) (h2 : M'.words = M.words) (h3 : M'.regs.length = 10)
  (hc : (Q0p vR vC M.fin M.value M.steps vS vM M.regs vW M.at_ vB).toArray.setIfInBounds i u = (Q0p vR vC M'.fin M'.value M'.steps vS vM M'.regs vW M'.at_ vB).toArray) :
  MSt (w.setCell ⟨g, i, none⟩ u) B g vR vC vM vB vS vW bases M' :=
 ⟨by rw [← hc]; exact h.box.set_ i u, by rw [h1]; exact Q0o h.sn h.gs u, by rw [h2]; exact Q0o h.ws h.gw u, Q0o h.bs h.gb u, h3, h.hg⟩
theorem MSt.fin_ (h : MSt w B g vR vC vM vB vS vW bases M) (x : Int) : MSt (w.setCell ⟨g, 2, none⟩ (.int .i64 x)) B g vR vC vM vB vS vW bases { M with fin := x } := h.put 2 _ rfl rfl h.len Qgk
theorem MSt.value_ (h : MSt w B g vR vC vM vB vS vW bases M) (x : Int) : MSt (w.setCell ⟨g, 3, none⟩ (.int .i64 x)) B g vR vC vM vB vS vW bases { M with value := x } := h.put 3 _ rfl rfl h.len Qgf
theorem MSt.steps_ (h : MSt w B g vR vC vM vB vS vW bases M) (k : Nat) : MSt (w.setCell ⟨g, 4, none⟩ (.int .i64 (k : Int))) B g vR vC vM vB vS vW bases { M with steps := k } := h.put 4 _ rfl rfl h.len Qgg
theorem MSt.at__ (h : MSt w B g vR vC vM vB vS vW bases M) (k : Nat) : MSt (w.setCell ⟨g, 18, none⟩ (.int .i64 (k : Int))) B g vR vC vM vB vS vW bases { M with at_ := k } := h.put 18 _ rfl rfl h.len (Qgm h.len)
theorem MSt.reg_ (h : MSt w B g vR vC vM vB vS vW bases M) {a : Int} (ha : okIn 10 a = true) (x : Int) : MSt (w.setCell ⟨g, 7 + a.toNat, none⟩ (.int .i64 x)) B g vR vC vM vB vS vW bases { M with regs := rset M.regs a x } := by
 obtain ⟨h0, h1⟩ := Q0l.1 ha
 exact h.put _ _ rfl rfl (by rw [Q43]; exact h.len) (Qgi h.len (by omega))
theorem MSt.show_ (h : MSt w B g vR vC vM vB vS vW bases M) {vS' : Value} {s : List LSee} (hg : w.grownBy w' vS.ownBlock) (ho : w'.ownsRow B 79 3 vS' s.length (s.flatMap Q2g)) :
  MSt (w'.setCell ⟨g, 5, none⟩ vS') B g vR vC vM vB vS' vW bases { M with seen := s } := by
 have hb := h.box.grown hg h.gs
 have hne : some g ≠ vS'.ownBlock := Q06 ho hb (by decide)
 have hw := Q0y h.ws hg (fun k hk he => Q13 h.sn h.ws (by decide) k hk he)
 have hbs := Q0y h.bs hg (fun k hk he => Q13 h.sn h.bs (by decide) k hk he)
 exact ⟨by rw [← Qgh (u := vS')]; exact hb.set_ 5 vS', Q0o ho hne _, Q0o hw h.gw _, Q0o hbs h.gb _, h.len, h.hg⟩
theorem MSt.word (h : MSt w B g vR vC vM vB vS vW bases M) {x k cap : Nat} (hv : vW = .slice (some ⟨k, 0, none⟩) M.words.length cap) (z : Int) :
  MSt (w.setCell ⟨k, x, none⟩ (.int .i64 z)) B g vR vC vM vB vS vW bases { M with words := M.words.set x z } := by
 subst hv
 have hws := h.ws
 have hkg := h.gw
 have hset := Q3q w ⟨k, x, none⟩ (.int .i64 z)
 refine ⟨h.box.far (p := ⟨k, x, none⟩) (by intro e; exact hkg (by simp [Value.ownBlock, e])) _, Q0y h.sn hset (fun j e he => Q13 h.sn h.ws (by decide) j he (by simpa [Value.ownBlock] using e)), ?_,
  Q0y h.bs hset (fun j e he => Q13 h.bs h.ws (by decide) j he (by simpa [Value.ownBlock] using e)), h.len, h.hg⟩
 have := (hws.stored x (.int .i64 z)).1
 simp only [List.length_set]
 rw [List.map_set]
 exact this
theorem MSt.cells (h : MSt w B g vR vC vM vB vS vW bases M) :
  (w.cell? ⟨g, 0, none⟩ = some vR ∧ w.frozen? ⟨g, 0, none⟩ = false) ∧ (w.cell? ⟨g, 1, none⟩ = some vC ∧ w.frozen? ⟨g, 1, none⟩ = false) ∧ (w.cell? ⟨g, 2, none⟩ = some (.int .i64 M.fin) ∧ w.frozen? ⟨g, 2, none⟩ = false) ∧
  (w.cell? ⟨g, 3, none⟩ = some (.int .i64 M.value) ∧ w.frozen? ⟨g, 3, none⟩ = false) ∧ (w.cell? ⟨g, 4, none⟩ = some (.int .i64 M.steps) ∧ w.frozen? ⟨g, 4, none⟩ = false) ∧ (w.cell? ⟨g, 5, none⟩ = some vS ∧ w.frozen? ⟨g, 5, none⟩ = false) ∧
  (w.cell? ⟨g, 6, none⟩ = some vM ∧ w.frozen? ⟨g, 6, none⟩ = false) ∧ (w.cell? ⟨g, 17, none⟩ = some vW ∧ w.frozen? ⟨g, 17, none⟩ = false) ∧ (w.cell? ⟨g, 18, none⟩ = some (.int .i64 M.at_) ∧ w.frozen? ⟨g, 18, none⟩ = false) ∧
  (w.cell? ⟨g, 19, none⟩ = some vB ∧ w.frozen? ⟨g, 19, none⟩ = false) := by
 have hl := h.len
 refine ⟨⟨?_, h.box.frozen _⟩, ⟨?_, h.box.frozen _⟩, ⟨?_, h.box.frozen _⟩, ⟨?_, h.box.frozen _⟩, ⟨?_, h.box.frozen _⟩, ⟨?_, h.box.frozen _⟩, ⟨?_, h.box.frozen _⟩, ⟨?_, h.box.frozen _⟩, ⟨?_, h.box.frozen _⟩, ⟨?_, h.box.frozen _⟩⟩ <;>
  (rw [h.box.cell]; simp [Q0p, List.getElem?_append, hl])
theorem MSt.reg (h : MSt w B g vR vC vM vB vS vW bases M) {a : Int} (ha : okIn 10 a = true) : w.cell? ⟨g, 7 + a.toNat, none⟩ = some (.int .i64 (rg M.regs a)) ∧ w.frozen? ⟨g, 7 + a.toNat, none⟩ = false := by
 obtain ⟨h0, h1⟩ := Q0l.1 ha
 exact ⟨by rw [h.box.cell]; exact Qgn h.len (by omega), h.box.frozen _⟩
def Q79 (w w' : World) (B g : Nat) (vR vC vM vB vS vW : Value) (bases : List Int) (M' : Mach) : Prop :=
 ∃ vS', MSt w' B g vR vC vM vB vS' vW bases M' ∧ Turn (fun j => j = g ∨ vS.ownBlock = some j) w w' ∧ (∀ j, vS'.ownBlock = some j → vS.ownBlock = some j ∨ w.heap.size ≤ j)
theorem Q79.keep {w1 : World} {M' : Mach} (h : MSt w' B g vR vC vM vB vS vW bases M') (ht : Turn (fun j => j = g ∨ vS.ownBlock = some j) w w') : Q79 w w' B g vR vC vM vB vS vW bases M' := ⟨vS, h, ht, fun _ e => .inl e⟩
end
def regW (Y : Array Value) (l : List Int) : Array Value := regV l ++ Y
theorem Qec {Y : Array Value} {l : List Int} {a : Int} (h : a.toNat < l.length) : (regW Y l)[a.toNat]? = some (.int .i64 (rg l a)) := by
 have h2 : a.toNat < (regV l).size := by rw [Qaf]; exact h
 unfold regW
 rw [Array.getElem?_append_left h2, Qee h]
theorem regW_set' (Y : Array Value) (l : List Int) (a v : Int) (h : a.toNat < l.length) : (regW Y l).setIfInBounds a.toNat (.int .i64 v) = regW Y (rset l a v) := by
 have h2 : a.toNat < (regV l).size := by rw [Qaf]; exact h
 unfold regW
 rw [← Qed, Array.setIfInBounds_append_left h2]
theorem Q1s {Y : Array Value} {w : World} {k : Nat} {E : TypeId} {l : List Int} (h : Blk w k E (regW Y l)) (hl : l.length = 10) {a : Int} (ha : okIn 10 a = true) : w.cell? ⟨k, a.toNat, none⟩ = some (.int .i64 (rg l a)) ∧ w.frozen? ⟨k, a.toNat, none⟩ = false := by
 obtain ⟨h0, h1⟩ := Q0l.1 ha
 exact ⟨by rw [h.cell, Qec (by omega)], h.frozen _⟩
theorem Qeb {w : World} {B k cap : Nat} {E : TypeId} {l : List Int} (h : w.ownsRow B E 1 (.slice (some ⟨k, 0, none⟩) l.length cap) l.length (l.map (Value.int .i64))) : ∃ Y, Blk w k E (regW Y l) := by
 rcases h.2 with ⟨h0, -⟩ | ⟨g, c, cur, hv, h1, h2, h3, h4, h5, h6⟩
 ·cases h0
 simp only [Value.slice.injEq, Option.some.injEq, Addr.mk.injEq, and_true, true_and] at hv
 obtain ⟨rfl, rfl⟩ := hv
 refine ⟨(cur.toList.drop l.length).toArray, ?_⟩
 unfold Blk regW regV
 rw [h2, ← h6, Nat.mul_one]
 simp
theorem Qfr {w w' : World} {B k cap : Nat} {E : TypeId} {l l' : List Int} {Y : Array Value} (h : w.ownsRow B E 1 (.slice (some ⟨k, 0, none⟩) l.length cap) l.length (l.map (Value.int .i64))) (hX : Blk w k E (regW Y l)) (hl : l'.length = l.length) (h' : Blk w' k E (regW Y l')) :
  w'.ownsRow B E 1 (.slice (some ⟨k, 0, none⟩) l'.length cap) l'.length (l'.map (Value.int .i64)) := by
 rcases h.2 with ⟨h0, -⟩ | ⟨g, c, cur, hv, h1, h2, h3, h4, h5, h6⟩
 ·cases h0
 simp only [Value.slice.injEq, Option.some.injEq, Addr.mk.injEq, and_true, true_and] at hv
 obtain ⟨rfl, rfl⟩ := hv
 have hc : cur = regW Y l := by
  unfold Blk at hX
  rw [h2] at hX
  simpa using hX
 refine ⟨by simp, .inr ⟨_, _, regW Y l', rfl, h1, h', by omega, h4, ?_, ?_⟩⟩
 ·rw [← h5, hc]
  simp [regW, regV, hl]
 ·simp [regW, regV]
theorem Qf1 (k : Nat) (Y : Array Value) (cap : Nat) (l : List Int) (E : TypeId) (i : LIns) (hl : l.length = 10) (hb : okIn 10 i.b = true) (w : World) (h : Blk w k E (regW Y l)) :
  Calls Try.prog 64 #[.slice (some ⟨k, 0, none⟩) 10 cap, insV i] w fun e w' => e = .returned (.int .i64 (Q1n l i)) ∧ Ext w w' := by
 obtain ⟨rb, -⟩ := Q1s h hl hb
 obtain ⟨op, a, b, c, n⟩ := i
 simp only at hb rb
 obtain ⟨b0, b1⟩ := Q0l.1 hb
 have hkl := h.lt
 unfold insV
 simp only
 clear h
 by_cases h5 : op = 5
 ·subst h5
  go_enter Try.func64, Try.ntmps64
  go_wp2
  go_ret
  exact ⟨Q14 (by simp [Q1n]), (Ext.refl _).alloc _⟩
 by_cases h6 : op = 6
 ·subst h6
  go_enter Try.func64, Try.ntmps64
  go_wp2
  go_ret
  exact ⟨Q14 (by simp [Q1n]), (Ext.refl _).alloc _⟩
 have Hv : Hid (Q1n l ⟨op, a, b, c, n⟩ = wrap64 (rg l b + n)) := Lib.hid (by unfold Q1n; rw [if_neg (by simp only; omega)])
 have e5 : (op == 5) = false := by simpa using h5
 have e6 : (op == 6) = false := by simpa using h6
 have hix := Q1v
 clear h5 h6
 go_enter Try.func64, Try.ntmps64
 go_upto_region 3 with fail
 obtain ⟨w0, e, he, hW, hs0, hx0, c0, c1, c2, c3, c4⟩ := new5 w 71 (.int .i64 op) (.int .i64 a) (.int .i64 b) (.int .i64 c) (.int .i64 n)
 rw [hW, he]
 have k0 : ∀ W, Ext w0 W → W.cell? ⟨e, 2, none⟩ = some (.int .i64 b) := fun _ h => h.kept c2
 have k1 : ∀ W, Ext w0 W → W.cell? ⟨e, 4, none⟩ = some (.int .i64 n) := fun _ h => h.kept c4
 have k2 : ∀ W, Ext w0 W → W.cell? ⟨k, b.toNat, none⟩ = some (.int .i64 (rg l b)) := fun _ h => h.kept (hx0.kept rb)
 have X := Lib.hid hx0
 clear hW he hs0 hx0 c0 c1 c2 c3 c4 rb
 refine Q0i 9 (by kernel_rfl) (by kernel_rfl) ?_
 simp only [List.take_succ_cons, List.take_zero, List.drop_succ_cons, List.drop_zero]
 repeat (first | (refine Q0e ?_ ?_ (fun wc hE => ?_) ?_; (decide); rfl; (focus (go_simp; done)); go_simp) | (refine Q0a ?_ ?_ ?_; (decide); (first | rfl | (focus (go_simp; done))); apply Exists.intro; refine ⟨fun wc hE => ?_, ?_⟩; (go_simp; exact rfl); go_simp) | (refine Q0f ?_ ?_ ?_; (decide); (first | rfl | (focus (go_simp; done))); apply Exists.intro; refine ⟨fun wc hE => ?_, ?_⟩; (go_simp; (first | fail)); go_simp) | (refine Q0c ?_ ?_ ?_; (decide); (focus (go_simp; done)); go_simp))
 refine Q0d ?_
 intro wx hx
 have X := Lib.hid (X.out.trans hx)
 clear hx k0 k1 k2
 go_wp2
 go_ret
 exact ⟨Q14 (by rw [Hv.out, IntKind.wrap_i64]; unfold wrap64; rfl), X.out⟩
def Q3i (k : Nat) (Y : Array Value) (E : TypeId) (l : List Int) (i : LIns) (w : World) (e : Ending) (w' : World) : Prop :=
 ∃ ao cap, e = .returned (.slice ao (Q12 l i).length cap) ∧ Src w' 3 ao (Q12 l i).length ((Q12 l i).flatMap Q2g) ∧ w.grownBy w' (some k) ∧ Blk w' k E (regW Y (Q0r l i))
theorem Q4o {k : Nat} {Y : Array Value} {E : TypeId} {l l' : List Int} {i : LIns} {w w1 w2 : World} (hs : Q12 l i = []) (hr : Q0r l i = l') (hg : w.grownBy w1 (some k)) (hx : Ext w1 w2) (hb : Blk w1 k E (regW Y l')) : Q3i k Y E l i w (.returned (.slice none 0 0)) w2 := by
 refine ⟨none, 0, by rw [hs]; rfl, by rw [hs]; exact Qct _ _, Q5h hg (Q4a hx _), by rw [hr]; exact hb.ext hx⟩
theorem Q4n {k : Nat} {Y : Array Value} {E : TypeId} {l : List Int} {w w1 : World} {a v : Int} (hal : a.toNat < l.length) (hb : Blk w1 k E (regW Y l)) (hx : Ext w w1) : w.grownBy (w1.setCell ⟨k, a.toNat, none⟩ (.int .i64 v)) (some k) ∧ Blk (w1.setCell ⟨k, a.toNat, none⟩ (.int .i64 v)) k E (regW Y (rset l a v)) :=
 ⟨Q5h (Q4a hx _) (Q3q _ _ _), by rw [← regW_set' Y l a v hal]; exact hb.set_ _ _⟩
set_option maxRecDepth 100000 in
set_option maxHeartbeats 2000000 in
theorem Qe1 (k : Nat) (Y : Array Value) (cap : Nat) (E : TypeId) (l : List Int) (a b c n : Int) (hl : l.length = 10) (h64 : Q0v l) (ha : okIn 10 a = true) (w : World) (h : Blk w k E (regW Y l)) :
  Calls Try.prog 50 #[.slice (some ⟨k, 0, none⟩) 10 cap, insV ⟨1, a, b, c, n⟩] w (Q3i k Y E l ⟨1, a, b, c, n⟩ w) := by
 unfold insV
 simp only
 have hkl := h.lt
 obtain ⟨ra, fa⟩ := Q1s h hl ha
 obtain ⟨a0, a1⟩ := Q0l.1 ha
 have rr : w.cell? ⟨k, a.toNat, none⟩ = some (.int .i64 (rg l a)) ∧ w.frozen? ⟨k, a.toNat, none⟩ = false := ⟨ra, fa⟩
 have hix := Q1v
 go_enter Try.func50, Try.ntmps50
 go_wp2
 go_ret
 obtain ⟨h1, h2⟩ := Q4n (a := a) (v := n) (by have := Q0l.1 ha; omega) h (Ext.refl w)
 first | exact Q4o (Q2t (by simp)) rfl h1 ((Ext.refl _).alloc _) h2
set_option maxRecDepth 100000 in
set_option maxHeartbeats 2000000 in
theorem Qe4 (k : Nat) (Y : Array Value) (cap : Nat) (E : TypeId) (l : List Int) (a b c n : Int) (hl : l.length = 10) (h64 : Q0v l) (ha : okIn 10 a = true) (hb : okIn 10 b = true) (w : World) (h : Blk w k E (regW Y l)) :
  Calls Try.prog 50 #[.slice (some ⟨k, 0, none⟩) 10 cap, insV ⟨2, a, b, c, n⟩] w (Q3i k Y E l ⟨2, a, b, c, n⟩ w) := by
 unfold insV
 simp only
 have hkl := h.lt
 obtain ⟨ra, fa⟩ := Q1s h hl ha
 obtain ⟨a0, a1⟩ := Q0l.1 ha
 obtain ⟨rb, fb⟩ := Q1s h hl hb
 obtain ⟨b0, b1⟩ := Q0l.1 hb
 have hix := Q1v
 go_enter Try.func50, Try.ntmps50
 go_upto_region 10 with fail
 obtain ⟨w0, e, he, hW, hs0, hx0, c0, c1, c2, c3, c4⟩ := new5 w 71 (.int .i64 2) (.int .i64 a) (.int .i64 b) (.int .i64 c) (.int .i64 n)
 rw [hW, he]
 have k1 : ∀ W, Ext w0 W → W.cell? ⟨e, 1, none⟩ = some (.int .i64 a) := fun _ h => h.kept c1
 have k2 : ∀ W, Ext w0 W → W.cell? ⟨e, 2, none⟩ = some (.int .i64 b) := fun _ h => h.kept c2
 have mb : ∀ W, Ext w0 W → W.cell? ⟨k, b.toNat, none⟩ = some (.int .i64 (rg l b)) := fun _ h => h.kept (hx0.kept rb)
 have rr := Q07 hx0 ⟨ra, fa⟩
 have X := Lib.hid hx0
 clear hW he hs0 hx0 c0 c1 c2 c3 c4 ra fa rb fb
 refine Q0i 9 (by kernel_rfl) (by kernel_rfl) ?_
 simp only [List.take_succ_cons, List.take_zero, List.drop_succ_cons, List.drop_zero]
 repeat (first | (refine Q0e ?_ ?_ (fun wc hE => ?_) ?_; (decide); rfl; (focus (go_simp; done)); go_simp) | (refine Q0a ?_ ?_ ?_; (decide); (first | rfl | (focus (go_simp; done))); apply Exists.intro; refine ⟨fun wc hE => ?_, ?_⟩; (go_simp; exact rfl); go_simp) | (refine Q0f ?_ ?_ ?_; (decide); (first | rfl | (focus (go_simp; done))); apply Exists.intro; refine ⟨fun wc hE => ?_, ?_⟩; (go_simp; (first | fail)); go_simp) | (refine Q0c ?_ ?_ ?_; (decide); (focus (go_simp; done)); go_simp))
 refine Q0d ?_
 intro wx hx
 have X := Lib.hid (X.out.trans hx)
 have rr := Q07 hx rr
 clear hx k1 k2 mb
 go_wp2
 go_ret
 obtain ⟨h1, h2⟩ := Q4n (a := a) (v := rg l b) (by have := Q0l.1 ha; omega) (h.ext X.out) X.out
 first | exact Q4o (Q2t (by simp)) rfl h1 (Ext.refl _) h2
set_option maxRecDepth 100000 in
set_option maxHeartbeats 2000000 in
theorem Qe7 (k : Nat) (Y : Array Value) (cap : Nat) (E : TypeId) (l : List Int) (a b c n : Int) (hl : l.length = 10) (h64 : Q0v l) (ha : okIn 10 a = true) (hb : okIn 10 b = true) (w : World) (h : Blk w k E (regW Y l)) :
  Calls Try.prog 50 #[.slice (some ⟨k, 0, none⟩) 10 cap, insV ⟨10, a, b, c, n⟩] w (Q3i k Y E l ⟨10, a, b, c, n⟩ w) := by
 unfold insV
 simp only
 have hkl := h.lt
 obtain ⟨ra, fa⟩ := Q1s h hl ha
 obtain ⟨a0, a1⟩ := Q0l.1 ha
 obtain ⟨rb, fb⟩ := Q1s h hl hb
 obtain ⟨b0, b1⟩ := Q0l.1 hb
 have hix := Q1v
 go_enter Try.func50, Try.ntmps50
 go_upto_region 12 with fail
 obtain ⟨w0, e, he, hW, hs0, hx0, c0, c1, c2, c3, c4⟩ := new5 w 71 (.int .i64 10) (.int .i64 a) (.int .i64 b) (.int .i64 c) (.int .i64 n)
 rw [hW, he]
 have k1 : ∀ W, Ext w0 W → W.cell? ⟨e, 1, none⟩ = some (.int .i64 a) := fun _ h => h.kept c1
 have k2 : ∀ W, Ext w0 W → W.cell? ⟨e, 2, none⟩ = some (.int .i64 b) := fun _ h => h.kept c2
 have k4 : ∀ W, Ext w0 W → W.cell? ⟨e, 4, none⟩ = some (.int .i64 n) := fun _ h => h.kept c4
 have mb : ∀ W, Ext w0 W → W.cell? ⟨k, b.toNat, none⟩ = some (.int .i64 (rg l b)) := fun _ h => h.kept (hx0.kept rb)
 have rr := Q07 hx0 ⟨ra, fa⟩
 have X := Lib.hid hx0
 clear hW he hs0 hx0 c0 c1 c2 c3 c4 ra fa rb fb
 refine Q0i 12 (by kernel_rfl) (by kernel_rfl) ?_
 simp only [List.take_succ_cons, List.take_zero, List.drop_succ_cons, List.drop_zero]
 repeat (first | (refine Q0e ?_ ?_ (fun wc hE => ?_) ?_; (decide); rfl; (focus (go_simp; done)); go_simp) | (refine Q0a ?_ ?_ ?_; (decide); (first | rfl | (focus (go_simp; done))); apply Exists.intro; refine ⟨fun wc hE => ?_, ?_⟩; (go_simp; exact rfl); go_simp) | (refine Q0f ?_ ?_ ?_; (decide); (first | rfl | (focus (go_simp; done))); apply Exists.intro; refine ⟨fun wc hE => ?_, ?_⟩; (go_simp; (first | fail)); go_simp) | (refine Q0c ?_ ?_ ?_; (decide); (focus (go_simp; done)); go_simp))
 refine Q0d ?_
 intro wx hx
 have X := Lib.hid (X.out.trans hx)
 have rr := Q07 hx rr
 clear hx k1 k2 k4 mb
 go_wp2
 go_ret
 obtain ⟨h1, h2⟩ := Q4n (a := a) (v := wrap64 (rg l b + n)) (by have := Q0l.1 ha; omega) (h.ext X.out) X.out
 try rw [show IntKind.i64.wrap (rg l b + n) = wrap64 (rg l b + n) by rw [IntKind.wrap_i64]; unfold wrap64; rfl]
 first | exact Q4o (Q2t (by simp)) rfl h1 (Ext.refl _) h2
set_option maxRecDepth 100000 in
set_option maxHeartbeats 2000000 in
theorem Qe5 (k : Nat) (Y : Array Value) (cap : Nat) (E : TypeId) (l : List Int) (a b c n : Int) (hl : l.length = 10) (h64 : Q0v l) (ha : okIn 10 a = true) (w : World) (h : Blk w k E (regW Y l)) :
  Calls Try.prog 50 #[.slice (some ⟨k, 0, none⟩) 10 cap, insV ⟨11, a, b, c, n⟩] w (Q3i k Y E l ⟨11, a, b, c, n⟩ w) := by
 unfold insV
 simp only
 have hkl := h.lt
 obtain ⟨ra, fa⟩ := Q1s h hl ha
 obtain ⟨a0, a1⟩ := Q0l.1 ha
 have hix := Q1v
 have key : Hid (Q0r l ⟨11, a, b, c, n⟩ = rset l a 0) → ∀ w1, Ext w w1 → Blk w1 k E (regW Y l) → Q3i k Y E l ⟨11, a, b, c, n⟩ w (.returned (.slice none 0 0)) (w1.setCell ⟨k, a.toNat, none⟩ (.int .i64 0)) := by
  intro hr w1 hx hb
  obtain ⟨h1, h2⟩ := Q4n (a := a) (v := 0) (by have := Q0l.1 ha; omega) hb hx
  exact Q4o (Q2t (by simp)) hr.out h1 (Ext.refl _) h2
 have Key := Lib.hid key
 clear key
 by_cases hneg : rg l a < 0
 ·have Hr : Hid (Q0r l ⟨11, a, b, c, n⟩ = rset l a 0) := Lib.hid (by simp [Q0r, hneg])
  go_enter Try.func50, Try.ntmps50
  go_upto_region 14 with fail
  obtain ⟨w0, e, he, hW, hs0, hx0, c0, c1, c2, c3, c4⟩ := new5 w 71 (.int .i64 11) (.int .i64 a) (.int .i64 b) (.int .i64 c) (.int .i64 n)
  rw [hW, he]
  have k1 : ∀ W, Ext w0 W → W.cell? ⟨e, 1, none⟩ = some (.int .i64 a) := fun _ h => h.kept c1
  have k4 : ∀ W, Ext w0 W → W.cell? ⟨e, 4, none⟩ = some (.int .i64 n) := fun _ h => h.kept c4
  have ma : ∀ W, Ext w0 W → W.cell? ⟨k, a.toNat, none⟩ = some (.int .i64 (rg l a)) := fun _ h => h.kept (hx0.kept ra)
  have rr := Q07 hx0 ⟨ra, fa⟩
  have X := Lib.hid hx0
  clear hW he hs0 hx0 c0 c2 c3 ra fa
  refine Q0i 16 (by kernel_rfl) (by kernel_rfl) ?_
  simp only [List.take_succ_cons, List.take_zero, List.drop_succ_cons, List.drop_zero]
  repeat (first | (refine Q0e ?_ ?_ (fun wc hE => ?_) ?_; (decide); rfl; (focus (go_simp; done)); go_simp) | (refine Q0a ?_ ?_ ?_; (decide); (first | rfl | (focus (go_simp; done))); apply Exists.intro; refine ⟨fun wc hE => ?_, ?_⟩; (go_simp; exact rfl); go_simp) | (refine Q0f ?_ ?_ ?_; (decide); (first | rfl | (focus (go_simp; done))); apply Exists.intro; refine ⟨fun wc hE => ?_, ?_⟩; (go_simp; (first | fail)); go_simp) | (refine Q0c ?_ ?_ ?_; (decide); (focus (go_simp; done)); go_simp))
  refine Q0d ?_
  intro wx hx
  have X := Lib.hid (X.out.trans hx)
  have rr := Q07 hx rr
  have c1 := hx.kept c1
  clear hx c4 k1 k4 ma
  go_wp2
  go_ret
  first | exact Key.out Hr wx X.out (h.ext X.out)
 by_cases hge : n ≤ rg l a
 ·have Hr : Hid (Q0r l ⟨11, a, b, c, n⟩ = rset l a 0) := Lib.hid (by simp [Q0r, hge])
  have hn0 : decide (rg l a < 0) = false := by simpa using hneg
  clear hneg
  go_enter Try.func50, Try.ntmps50
  go_upto_region 14 with fail
  obtain ⟨w0, e, he, hW, hs0, hx0, c0, c1, c2, c3, c4⟩ := new5 w 71 (.int .i64 11) (.int .i64 a) (.int .i64 b) (.int .i64 c) (.int .i64 n)
  rw [hW, he]
  have k1 : ∀ W, Ext w0 W → W.cell? ⟨e, 1, none⟩ = some (.int .i64 a) := fun _ h => h.kept c1
  have k4 : ∀ W, Ext w0 W → W.cell? ⟨e, 4, none⟩ = some (.int .i64 n) := fun _ h => h.kept c4
  have ma : ∀ W, Ext w0 W → W.cell? ⟨k, a.toNat, none⟩ = some (.int .i64 (rg l a)) := fun _ h => h.kept (hx0.kept ra)
  have rr := Q07 hx0 ⟨ra, fa⟩
  have X := Lib.hid hx0
  clear hW he hs0 hx0 c0 c2 c3 ra fa
  refine Q0i 16 (by kernel_rfl) (by kernel_rfl) ?_
  simp only [List.take_succ_cons, List.take_zero, List.drop_succ_cons, List.drop_zero]
  repeat (first | (refine Q0e ?_ ?_ (fun wc hE => ?_) ?_; (decide); rfl; (focus (go_simp; done)); go_simp) | (refine Q0a ?_ ?_ ?_; (decide); (first | rfl | (focus (go_simp; done))); apply Exists.intro; refine ⟨fun wc hE => ?_, ?_⟩; (go_simp; exact rfl); go_simp) | (refine Q0f ?_ ?_ ?_; (decide); (first | rfl | (focus (go_simp; done))); apply Exists.intro; refine ⟨fun wc hE => ?_, ?_⟩; (go_simp; (first | fail)); go_simp) | (refine Q0c ?_ ?_ ?_; (decide); (focus (go_simp; done)); go_simp))
  refine Q0d ?_
  intro wx hx
  have X := Lib.hid (X.out.trans hx)
  have rr := Q07 hx rr
  have c1 := hx.kept c1
  clear hx c4 k1 k4 ma
  go_wp2
  go_ret
  first | exact Key.out Hr wx X.out (h.ext X.out)
 ·have Hr : Hid (Q0r l ⟨11, a, b, c, n⟩ = l) := Lib.hid (by simp [Q0r, hge, hneg])
  have hn0 : decide (rg l a < 0) = false := by simpa using hneg
  have hn1 : decide (n ≤ rg l a) = false := by simpa using hge
  clear hneg hge
  go_enter Try.func50, Try.ntmps50
  go_upto_region 14 with fail
  obtain ⟨w0, e, he, hW, hs0, hx0, c0, c1, c2, c3, c4⟩ := new5 w 71 (.int .i64 11) (.int .i64 a) (.int .i64 b) (.int .i64 c) (.int .i64 n)
  rw [hW, he]
  have k1 : ∀ W, Ext w0 W → W.cell? ⟨e, 1, none⟩ = some (.int .i64 a) := fun _ h => h.kept c1
  have k4 : ∀ W, Ext w0 W → W.cell? ⟨e, 4, none⟩ = some (.int .i64 n) := fun _ h => h.kept c4
  have ma : ∀ W, Ext w0 W → W.cell? ⟨k, a.toNat, none⟩ = some (.int .i64 (rg l a)) := fun _ h => h.kept (hx0.kept ra)
  have rr := Q07 hx0 ⟨ra, fa⟩
  have X := Lib.hid hx0
  clear hW he hs0 hx0 c0 c2 c3 ra fa
  refine Q0i 16 (by kernel_rfl) (by kernel_rfl) ?_
  simp only [List.take_succ_cons, List.take_zero, List.drop_succ_cons, List.drop_zero]
  repeat (first | (refine Q0e ?_ ?_ (fun wc hE => ?_) ?_; (decide); rfl; (focus (go_simp; done)); go_simp) | (refine Q0a ?_ ?_ ?_; (decide); (first | rfl | (focus (go_simp; done))); apply Exists.intro; refine ⟨fun wc hE => ?_, ?_⟩; (go_simp; exact rfl); go_simp) | (refine Q0f ?_ ?_ ?_; (decide); (first | rfl | (focus (go_simp; done))); apply Exists.intro; refine ⟨fun wc hE => ?_, ?_⟩; (go_simp; (first | fail)); go_simp) | (refine Q0c ?_ ?_ ?_; (decide); (focus (go_simp; done)); go_simp))
  refine Q0d ?_
  intro wx hx
  have X := Lib.hid (X.out.trans hx)
  have rr := Q07 hx rr
  have c1 := hx.kept c1
  clear hx c4 k1 k4 ma
  go_wp2
  go_ret
  first | exact Q4o (Q2t (by simp)) Hr.out (Q4a X.out _) (Ext.refl _) (h.ext X.out)
set_option maxRecDepth 100000 in
set_option maxHeartbeats 2000000 in
theorem Qe6 (k : Nat) (Y : Array Value) (cap : Nat) (E : TypeId) (l : List Int) (a b c n : Int) (hl : l.length = 10) (h64 : Q0v l) (hop : True) (w : World) (h : Blk w k E (regW Y l)) :
  Calls Try.prog 50 #[.slice (some ⟨k, 0, none⟩) 10 cap, insV ⟨12, a, b, c, n⟩] w (Q3i k Y E l ⟨12, a, b, c, n⟩ w) := by
 unfold insV
 simp only
 have hkl := h.lt
 have hix := Q1v
 go_enter Try.func50, Try.ntmps50
 go_wp2
 go_ret
 exact Q4o (Q2t (by simp)) rfl (Q4a (Ext.refl _) _) ((Ext.refl _).alloc _) h
set_option maxRecDepth 100000 in
set_option maxHeartbeats 2000000 in
theorem Q5z (k : Nat) (Y : Array Value) (cap : Nat) (E : TypeId) (l : List Int) (op a b c n : Int) (hl : l.length = 10) (h64 : Q0v l) (ha : okIn 10 a = true) (hb : okIn 10 b = true) (hc : okIn 10 c = true) (o1 : 21 ≤ op) (o2 : op ≤ 28) (w : World) (h : Blk w k E (regW Y l)) :
  Calls Try.prog 50 #[.slice (some ⟨k, 0, none⟩) 10 cap, insV ⟨op, a, b, c, n⟩] w (Q3i k Y E l ⟨op, a, b, c, n⟩ w) := by
 unfold insV
 simp only
 have hkl := h.lt
 obtain ⟨ra, fa⟩ := Q1s h hl ha
 obtain ⟨a0, a1⟩ := Q0l.1 ha
 obtain ⟨rb, fb⟩ := Q1s h hl hb
 obtain ⟨b0, b1⟩ := Q0l.1 hb
 obtain ⟨rc, fc⟩ := Q1s h hl hc
 obtain ⟨c0, c1⟩ := Q0l.1 hc
 have hsub : IntKind.i64.wrap (op - 20) = op - 20 := Go.IntWalk.i64_in _ (by omega)
 have q1 : (op == (1 : Int)) = false := by simp; try omega
 have q2 : (op == (2 : Int)) = false := by simp; try omega
 have q3 : (op == (10 : Int)) = false := by simp; try omega
 have q4 : (op == (11 : Int)) = false := by simp; try omega
 have q5 : (op == (12 : Int)) = false := by simp; try omega
 have q6 : (op == (29 : Int)) = false := by simp; omega
 have q7 : (op == (30 : Int)) = false := by simp; omega
 have Hr : Hid (Q0r l ⟨op, a, b, c, n⟩ = rset l a (nop (op - 20) (rg l b) (rg l c))) := Lib.hid (by
  unfold Q0r
  rw [if_neg (by simp only; omega), if_neg (by simp only; omega), if_neg (by simp only; omega), if_neg (by simp only; omega), if_neg (by simp only; omega)]
  try rfl)
 have hix := Q1v
 go_enter Try.func50, Try.ntmps50
 go_upto_region 4 with fail
 obtain ⟨w0, e, he, hW, hs0, hx0, c0, c1, c2, c3, c4⟩ := new5 w 71 (.int .i64 op) (.int .i64 a) (.int .i64 b) (.int .i64 c) (.int .i64 n)
 rw [hW, he]
 have k0 : ∀ W, Ext w0 W → W.cell? ⟨e, 0, none⟩ = some (.int .i64 op) := fun _ h => h.kept c0
 have k1 : ∀ W, Ext w0 W → W.cell? ⟨e, 1, none⟩ = some (.int .i64 a) := fun _ h => h.kept c1
 have k2 : ∀ W, Ext w0 W → W.cell? ⟨e, 2, none⟩ = some (.int .i64 b) := fun _ h => h.kept c2
 have k3 : ∀ W, Ext w0 W → W.cell? ⟨e, 3, none⟩ = some (.int .i64 c) := fun _ h => h.kept c3
 have mb : ∀ W, Ext w0 W → W.cell? ⟨k, b.toNat, none⟩ = some (.int .i64 (rg l b)) := fun _ h => h.kept (hx0.kept rb)
 have mc : ∀ W, Ext w0 W → W.cell? ⟨k, c.toNat, none⟩ = some (.int .i64 (rg l c)) := fun _ h => h.kept (hx0.kept rc)
 have rr := Q07 hx0 ⟨ra, fa⟩
 have X := Lib.hid hx0
 have C0 : w0.cell? ⟨e, 0, none⟩ = some (.int .i64 op) := c0
 obtain ⟨vb0, vb1⟩ := rg64 h64 b
 obtain ⟨vc0, vc1⟩ := rg64 h64 c
 have hke : k ≠ e := by omega
 clear hW hs0 hx0 c0 c1 c2 c3 c4 ra fa rb fb rc fc
 refine Q0i 10 (by kernel_rfl) (by kernel_rfl) ?_
 simp only [List.take_succ_cons, List.take_zero, List.drop_succ_cons, List.drop_zero]
 repeat (first | (refine Q0e ?_ ?_ (fun wc hE => ?_) ?_; (decide); rfl; (focus (go_simp; done)); go_simp) | (refine Q0a ?_ ?_ ?_; (decide); (first | rfl | (focus (go_simp; done))); apply Exists.intro; refine ⟨fun wc hE => ?_, ?_⟩; (go_simp; exact rfl); go_simp) | (refine Q0f ?_ ?_ ?_; (decide); (first | rfl | (focus (go_simp; done))); apply Exists.intro; refine ⟨fun wc hE => ?_, ?_⟩; (go_simp; (first | (with_reducible exact Q1p (Q7y (op - 20) (rg l b) (rg l c) _ vb0 vb1 vc0 vc1)))); go_simp) | (refine Q0c ?_ ?_ ?_; (decide); (focus (go_simp; done)); go_simp))
 refine Q0d ?_
 intro wx hx
 have X := Lib.hid (X.out.trans hx)
 have rr := Q07 hx rr
 have C0 := hx.kept C0
 clear hx k0 k1 k2 k3 mb mc hsub
 go_wp2
 go_ret
 obtain ⟨h1, h2⟩ := Q4n (a := a) (v := nop (op - 20) (rg l b) (rg l c)) (by have := Q0l.1 ha; omega) (h.ext X.out) X.out
 first | exact Q4o (Q2t (by simp only; omega)) Hr.out h1 (Ext.refl _) h2
set_option maxRecDepth 100000 in
set_option maxHeartbeats 2000000 in
theorem Qe3 (k : Nat) (Y : Array Value) (cap : Nat) (E : TypeId) (l : List Int) (a b c n : Int) (hl : l.length = 10) (h64 : Q0v l) (ha : okIn 10 a = true) (hb : okIn 10 b = true) (hc : okIn 10 c = true) (w : World) (h : Blk w k E (regW Y l)) :
  Calls Try.prog 50 #[.slice (some ⟨k, 0, none⟩) 10 cap, insV ⟨29, a, b, c, n⟩] w (Q3i k Y E l ⟨29, a, b, c, n⟩ w) := by
 unfold insV
 simp only
 have hkl := h.lt
 obtain ⟨ra, fa⟩ := Q1s h hl ha
 obtain ⟨a0, a1⟩ := Q0l.1 ha
 obtain ⟨rb, fb⟩ := Q1s h hl hb
 obtain ⟨b0, b1⟩ := Q0l.1 hb
 obtain ⟨rc, fc⟩ := Q1s h hl hc
 obtain ⟨c0, c1⟩ := Q0l.1 hc
 have hsub : IntKind.i64.wrap (9) = 9 := Go.IntWalk.i64_in _ (by omega)
 have q1 : (29 == (1 : Int)) = false := by simp; try omega
 have q2 : (29 == (2 : Int)) = false := by simp; try omega
 have q3 : (29 == (10 : Int)) = false := by simp; try omega
 have q4 : (29 == (11 : Int)) = false := by simp; try omega
 have q5 : (29 == (12 : Int)) = false := by simp; try omega
 have Hr : Hid (Q0r l ⟨29, a, b, c, n⟩ = rset l a (nop (9) (rg l b) (rg l c))) := Lib.hid (by
  unfold Q0r
  rw [if_neg (by simp only; omega), if_neg (by simp only; omega), if_neg (by simp only; omega), if_neg (by simp only; omega), if_neg (by simp only; omega)]
  try rfl)
 have hix := Q1v
 go_enter Try.func50, Try.ntmps50
 go_upto_region 4 with fail
 obtain ⟨w0, e, he, hW, hs0, hx0, c0, c1, c2, c3, c4⟩ := new5 w 71 (.int .i64 29) (.int .i64 a) (.int .i64 b) (.int .i64 c) (.int .i64 n)
 rw [hW, he]
 have k0 : ∀ W, Ext w0 W → W.cell? ⟨e, 0, none⟩ = some (.int .i64 29) := fun _ h => h.kept c0
 have k1 : ∀ W, Ext w0 W → W.cell? ⟨e, 1, none⟩ = some (.int .i64 a) := fun _ h => h.kept c1
 have k2 : ∀ W, Ext w0 W → W.cell? ⟨e, 2, none⟩ = some (.int .i64 b) := fun _ h => h.kept c2
 have k3 : ∀ W, Ext w0 W → W.cell? ⟨e, 3, none⟩ = some (.int .i64 c) := fun _ h => h.kept c3
 have mb : ∀ W, Ext w0 W → W.cell? ⟨k, b.toNat, none⟩ = some (.int .i64 (rg l b)) := fun _ h => h.kept (hx0.kept rb)
 have mc : ∀ W, Ext w0 W → W.cell? ⟨k, c.toNat, none⟩ = some (.int .i64 (rg l c)) := fun _ h => h.kept (hx0.kept rc)
 have rr := Q07 hx0 ⟨ra, fa⟩
 have X := Lib.hid hx0
 have C0 : w0.cell? ⟨e, 0, none⟩ = some (.int .i64 29) := c0
 obtain ⟨vb0, vb1⟩ := rg64 h64 b
 obtain ⟨vc0, vc1⟩ := rg64 h64 c
 have hke : k ≠ e := by omega
 clear hW hs0 hx0 c0 c1 c2 c3 c4 ra fa rb fb rc fc
 refine Q0i 10 (by kernel_rfl) (by kernel_rfl) ?_
 simp only [List.take_succ_cons, List.take_zero, List.drop_succ_cons, List.drop_zero]
 repeat (first | (refine Q0e ?_ ?_ (fun wc hE => ?_) ?_; (decide); rfl; (focus (go_simp; done)); go_simp) | (refine Q0a ?_ ?_ ?_; (decide); (first | rfl | (focus (go_simp; done))); apply Exists.intro; refine ⟨fun wc hE => ?_, ?_⟩; (go_simp; exact rfl); go_simp) | (refine Q0f ?_ ?_ ?_; (decide); (first | rfl | (focus (go_simp; done))); apply Exists.intro; refine ⟨fun wc hE => ?_, ?_⟩; (go_simp; (first | (with_reducible exact Q1p (Q7y (9) (rg l b) (rg l c) _ vb0 vb1 vc0 vc1)))); go_simp) | (refine Q0c ?_ ?_ ?_; (decide); (focus (go_simp; done)); go_simp))
 refine Q0d ?_
 intro wx hx
 have X := Lib.hid (X.out.trans hx)
 have rr := Q07 hx rr
 have C0 := hx.kept C0
 clear hx k0 k1 k2 k3 mb mc hsub
 go_wp2
 go_ret
 obtain ⟨h1, h2⟩ := Q4n (a := a) (v := nop (9) (rg l b) (rg l c)) (by have := Q0l.1 ha; omega) (h.ext X.out) X.out
 have hs : Q12 l ⟨29, a, b, c, n⟩ = [⟨3, rg l b, rg l c⟩] := rfl
 have hg := Q5h h1 (Q4a ((Ext.refl _).alloc (.cells #[.int .i64 3, .int .i64 (rg l b), .int .i64 (rg l c)] 79)) _)
 have hb := Blk.new (wx.setCell ⟨k, a.toNat, none⟩ (.int .i64 (nop 9 (rg l b) (rg l c)))) 79 #[.int .i64 3, .int .i64 (rg l b), .int .i64 (rg l c)]
 rw [Q2a] at hb
 exact ⟨some ⟨wx.heap.size, 0, none⟩, 1, by rw [hs]; rfl, by rw [hs]; exact Q3l (size := 3) hb rfl (by simp [Value.oneCell']), hg, by rw [Hr.out]; exact h2.alloc _⟩
set_option maxRecDepth 100000 in
set_option maxHeartbeats 2000000 in
theorem Qe2 (k : Nat) (Y : Array Value) (cap : Nat) (E : TypeId) (l : List Int) (a b c n : Int) (hl : l.length = 10) (h64 : Q0v l) (ha : okIn 10 a = true) (hb : okIn 10 b = true) (hc : okIn 10 c = true) (w : World) (h : Blk w k E (regW Y l)) :
  Calls Try.prog 50 #[.slice (some ⟨k, 0, none⟩) 10 cap, insV ⟨30, a, b, c, n⟩] w (Q3i k Y E l ⟨30, a, b, c, n⟩ w) := by
 unfold insV
 simp only
 have hkl := h.lt
 obtain ⟨ra, fa⟩ := Q1s h hl ha
 obtain ⟨a0, a1⟩ := Q0l.1 ha
 obtain ⟨rb, fb⟩ := Q1s h hl hb
 obtain ⟨b0, b1⟩ := Q0l.1 hb
 obtain ⟨rc, fc⟩ := Q1s h hl hc
 obtain ⟨c0, c1⟩ := Q0l.1 hc
 have hsub : IntKind.i64.wrap (10) = 10 := Go.IntWalk.i64_in _ (by omega)
 have q1 : (30 == (1 : Int)) = false := by simp; try omega
 have q2 : (30 == (2 : Int)) = false := by simp; try omega
 have q3 : (30 == (10 : Int)) = false := by simp; try omega
 have q4 : (30 == (11 : Int)) = false := by simp; try omega
 have q5 : (30 == (12 : Int)) = false := by simp; try omega
 have Hr : Hid (Q0r l ⟨30, a, b, c, n⟩ = rset l a (nop (10) (rg l b) (rg l c))) := Lib.hid (by
  unfold Q0r
  rw [if_neg (by simp only; omega), if_neg (by simp only; omega), if_neg (by simp only; omega), if_neg (by simp only; omega), if_neg (by simp only; omega)]
  try rfl)
 have hix := Q1v
 go_enter Try.func50, Try.ntmps50
 go_upto_region 4 with fail
 obtain ⟨w0, e, he, hW, hs0, hx0, c0, c1, c2, c3, c4⟩ := new5 w 71 (.int .i64 30) (.int .i64 a) (.int .i64 b) (.int .i64 c) (.int .i64 n)
 rw [hW, he]
 have k0 : ∀ W, Ext w0 W → W.cell? ⟨e, 0, none⟩ = some (.int .i64 30) := fun _ h => h.kept c0
 have k1 : ∀ W, Ext w0 W → W.cell? ⟨e, 1, none⟩ = some (.int .i64 a) := fun _ h => h.kept c1
 have k2 : ∀ W, Ext w0 W → W.cell? ⟨e, 2, none⟩ = some (.int .i64 b) := fun _ h => h.kept c2
 have k3 : ∀ W, Ext w0 W → W.cell? ⟨e, 3, none⟩ = some (.int .i64 c) := fun _ h => h.kept c3
 have mb : ∀ W, Ext w0 W → W.cell? ⟨k, b.toNat, none⟩ = some (.int .i64 (rg l b)) := fun _ h => h.kept (hx0.kept rb)
 have mc : ∀ W, Ext w0 W → W.cell? ⟨k, c.toNat, none⟩ = some (.int .i64 (rg l c)) := fun _ h => h.kept (hx0.kept rc)
 have rr := Q07 hx0 ⟨ra, fa⟩
 have X := Lib.hid hx0
 have C0 : w0.cell? ⟨e, 0, none⟩ = some (.int .i64 30) := c0
 obtain ⟨vb0, vb1⟩ := rg64 h64 b
 obtain ⟨vc0, vc1⟩ := rg64 h64 c
 have hke : k ≠ e := by omega
 clear hW hs0 hx0 c0 c1 c2 c3 c4 ra fa rb fb rc fc
 refine Q0i 10 (by kernel_rfl) (by kernel_rfl) ?_
 simp only [List.take_succ_cons, List.take_zero, List.drop_succ_cons, List.drop_zero]
 repeat (first | (refine Q0e ?_ ?_ (fun wc hE => ?_) ?_; (decide); rfl; (focus (go_simp; done)); go_simp) | (refine Q0a ?_ ?_ ?_; (decide); (first | rfl | (focus (go_simp; done))); apply Exists.intro; refine ⟨fun wc hE => ?_, ?_⟩; (go_simp; exact rfl); go_simp) | (refine Q0f ?_ ?_ ?_; (decide); (first | rfl | (focus (go_simp; done))); apply Exists.intro; refine ⟨fun wc hE => ?_, ?_⟩; (go_simp; (first | (with_reducible exact Q1p (Q7y (10) (rg l b) (rg l c) _ vb0 vb1 vc0 vc1)))); go_simp) | (refine Q0c ?_ ?_ ?_; (decide); (focus (go_simp; done)); go_simp))
 refine Q0d ?_
 intro wx hx
 have X := Lib.hid (X.out.trans hx)
 have rr := Q07 hx rr
 have C0 := hx.kept C0
 clear hx k0 k1 k2 k3 mb mc hsub
 go_wp2
 go_ret
 obtain ⟨h1, h2⟩ := Q4n (a := a) (v := nop (10) (rg l b) (rg l c)) (by have := Q0l.1 ha; omega) (h.ext X.out) X.out
 have hs : Q12 l ⟨30, a, b, c, n⟩ = [⟨3, rg l b, rg l c⟩] := rfl
 have hg := Q5h h1 (Q4a ((Ext.refl _).alloc (.cells #[.int .i64 3, .int .i64 (rg l b), .int .i64 (rg l c)] 79)) _)
 have hb := Blk.new (wx.setCell ⟨k, a.toNat, none⟩ (.int .i64 (nop 10 (rg l b) (rg l c)))) 79 #[.int .i64 3, .int .i64 (rg l b), .int .i64 (rg l c)]
 rw [Q2a] at hb
 exact ⟨some ⟨wx.heap.size, 0, none⟩, 1, by rw [hs]; rfl, by rw [hs]; exact Q3l (size := 3) hb rfl (by simp [Value.oneCell']), hg, by rw [Hr.out]; exact h2.alloc _⟩
theorem Qel (k : Nat) (Y : Array Value) (cap : Nat) (E : TypeId) (l : List Int) (p : Q01) (i : LIns) (hl : l.length = 10) (h64 : Q0v l) (hi : Q00 p 10 i = true) (h3 : i.op ≠ 3 ∧ i.op ≠ 4 ∧ i.op ≠ 5 ∧ i.op ≠ 6 ∧ i.op ≠ 7 ∧ i.op ≠ 8 ∧ i.op ≠ 9) (w : World) (h : Blk w k E (regW Y l)) :
  Calls Try.prog 50 #[.slice (some ⟨k, 0, none⟩) 10 cap, insV i] w (Q3i k Y E l i w) := by
 obtain ⟨g1, g2, g10, g3, g5, g8, g9, g11, go, g7, gop⟩ := Q3d hi
 obtain ⟨op, a, b, c, n⟩ := i
 simp only at h3
 by_cases e1 : op = 1
 ·subst e1; exact Qe1 k Y cap E l a b c n hl h64 (g1 rfl) w h
 by_cases e2 : op = 2
 ·subst e2; exact Qe4 k Y cap E l a b c n hl h64 (g2 rfl).1 (g2 rfl).2 w h
 by_cases e10 : op = 10
 ·subst e10; exact Qe7 k Y cap E l a b c n hl h64 (g10 rfl).1 (g10 rfl).2 w h
 by_cases e11 : op = 11
 ·subst e11; exact Qe5 k Y cap E l a b c n hl h64 (g11 rfl).1 w h
 by_cases e12 : op = 12
 ·subst e12; exact Qe6 k Y cap E l a b c n hl h64 trivial w h
 obtain ⟨p1, p2, p3, p4, p5⟩ := go e1 e2 e10 h3.1 h3.2.1 h3.2.2.1 h3.2.2.2.1 h3.2.2.2.2.1 h3.2.2.2.2.2.1 h3.2.2.2.2.2.2 e11 e12
 simp only at p4 p5
 by_cases e29 : op = 29
 ·subst e29; exact Qe3 k Y cap E l a b c n hl h64 p1 p2 p3 w h
 by_cases e30 : op = 30
 ·subst e30; exact Qe2 k Y cap E l a b c n hl h64 p1 p2 p3 w h
 exact Q5z k Y cap E l op a b c n hl h64 p1 p2 p3 p4 (by omega) w h
theorem own_at' {w : World} {B : Nat} {e : TypeId} {v : Value} {n : Nat} {xs : List Value} (h : w.ownsRow B e 1 v n xs) (hn : 0 < n) : ∃ k cap, v = .slice (some ⟨k, 0, none⟩) n cap ∧ B ≤ k ∧ ∀ j x, j < n → xs[j]? = some x → w.cell? ⟨k, j, none⟩ = some x ∧ w.frozen? ⟨k, j, none⟩ = false := by
 have h' := h
 rcases h.2 with ⟨-, h0⟩ | ⟨k, cap, cur, rfl, a1, a2, a3⟩
 ·omega
 ·exact ⟨k, cap, rfl, a1, fun j x hj hx => ⟨by rw [h'.cellAt j (by omega), hx], h'.frozenAt j⟩⟩
structure Fam (w : World) (B : Nat) (L : List (Value × List Int)) : Prop where
 own : ∀ x ∈ L, w.ownsRow B 2 1 x.1 x.2.length (x.2.map (Value.int .i64))
 apart : L.Pairwise fun x y => ∀ k, x.1.ownBlock = some k → y.1.ownBlock ≠ some k
section
variable {w w' : World} {B B' : Nat} {L L' : List (Value × List Int)}
theorem own_mono' {w : World} {b b' : Nat} {e : TypeId} {s n : Nat} {v : Value} {xs : List Value} (h : w.ownsRow b e s v n xs) (hb : b' ≤ b) : w.ownsRow b' e s v n xs := by
 refine ⟨h.1, ?_⟩
 rcases h.2 with h | ⟨g, cap, cur, rfl, h1, h2, h3⟩
 ·exact .inl h
 ·exact .inr ⟨g, cap, cur, rfl, by omega, h2, h3⟩
theorem Fam.nil (w : World) (B : Nat) : Fam w B [] := ⟨fun x h => by simp at h, List.Pairwise.nil⟩
theorem Fam.ext (h : Fam w B L) (hx : Ext w w') : Fam w' B L := ⟨fun x k => Q1m (h.own x k) hx, h.apart⟩
theorem Fam.mono (h : Fam w B L) (hB : B' ≤ B) : Fam w B' L := ⟨fun x k => own_mono' (h.own x k) hB, h.apart⟩
theorem Fam.kept (h : Fam w B L) {row : Option Nat} (hg : w.grownBy w' row) (hne : ∀ x ∈ L, ∀ k, row = some k → x.1.ownBlock ≠ some k) : Fam w' B L :=
 ⟨fun x k => Q0y (h.own x k) hg (hne x k), h.apart⟩
theorem Fam.far (h : Fam w B L) {g : Nat} {t : TypeId} {cs : Array Value} (hb : Blk w g t cs) (ht : 2 ≠ t) (i : Nat) (u : Value) : Fam (w.setCell ⟨g, i, none⟩ u) B L :=
 ⟨fun x k => Q0o (p := ⟨g, i, none⟩) (h.own x k) (Q06 (h.own x k) hb ht) u, h.apart⟩
theorem Fam.other (h : Fam w B L) {e : TypeId} {s n : Nat} {v : Value} {xs : List Value} (ho : w.ownsRow B e s v n xs) (he : e ≠ 2) (hg : w.grownBy w' v.ownBlock) : Fam w' B L :=
 h.kept hg fun x hx k hk => Q13 ho (h.own x hx) he k hk
theorem Fam.sub (h : Fam w B L) (hs : L'.Sublist L) : Fam w B L' := ⟨fun x k => h.own x (hs.subset k), h.apart.sublist hs⟩
theorem Fam.size (h : Fam w B L) {x : Value × List Int} (hx : x ∈ L) : ∀ k, x.1.ownBlock = some k → B ≤ k ∧ k < w.heap.size := fun k hk => (h.own x hx).lt k hk
theorem Fam.app (h : Fam w B L) (h' : Fam w B' L') (hB : B ≤ B') (hlt : ∀ x ∈ L, ∀ k, x.1.ownBlock = some k → k < B') : Fam w B (L ++ L') := by
 refine ⟨fun x hx => ?_, ?_⟩
 ·rcases List.mem_append.1 hx with k | k
  ·exact h.own x k
  ·exact own_mono' (h'.own x k) hB
 ·rw [List.pairwise_append]
  refine ⟨h.apart, h'.apart, fun a ha b hb k hk hk' => ?_⟩
  have h1 := hlt a ha k hk
  have h2 := (h'.size hb k hk').1
  omega
theorem Fam.ne (h : Fam w B L) {i j : Nat} (hij : i ≠ j) {x y : Value × List Int} (hi : L[i]? = some x) (hj : L[j]? = some y) : ∀ k, x.1.ownBlock = some k → y.1.ownBlock ≠ some k := by
 obtain ⟨hi1, rfl⟩ := List.getElem?_eq_some_iff.1 hi
 obtain ⟨hj1, rfl⟩ := List.getElem?_eq_some_iff.1 hj
 have hp := List.pairwise_iff_getElem.1 h.apart
 intro k hk hk'
 rcases Nat.lt_or_gt_of_ne hij with hl | hl
 ·exact hp i j hi1 hj1 hl k hk hk'
 ·exact hp j i hj1 hi1 hl k hk' hk
theorem Fam.at_ (h : Fam w B L) {i : Nat} {v : Value} {l : List Int} (hi : L[i]? = some (v, l)) : w.ownsRow B 2 1 v l.length (l.map (Value.int .i64)) := by
 obtain ⟨hi1, e⟩ := List.getElem?_eq_some_iff.1 hi
 have := h.own _ (List.getElem_mem hi1)
 rw [e] at this
 exact this
theorem Fam.set_ (h : Fam w B L) {i : Nat} {v v' : Value} {l l' : List Int} (hi : L[i]? = some (v, l)) (hg : w.grownBy w' v.ownBlock) (ho : w'.ownsRow B 2 1 v' l'.length (l'.map (Value.int .i64)))
  (hat : ∀ k, v'.ownBlock = some k → v.ownBlock = some k ∨ w.heap.size ≤ k) : Fam w' B (L.set i (v', l')) := by
 have hi1 := (List.getElem?_eq_some_iff.1 hi).1
 have hset : ∀ j, j < L.length → (L.set i (v', l'))[j]? = if j = i then some (v', l') else L[j]? := fun j hj => by
  rw [List.getElem?_set]
  by_cases e : i = j
  ·subst e; simp [hj]
  ·rw [if_neg e, if_neg (fun e' => e e'.symm)]
 have hap : ∀ j x, j ≠ i → L[j]? = some x → ∀ k, v'.ownBlock = some k → x.1.ownBlock ≠ some k := fun j x hj hx k hk hk' => by
  rcases hat k hk with h1 | h1
  ·exact h.ne (Ne.symm hj) hi hx k h1 hk'
  ·have := (h.size (List.mem_of_getElem? hx) k hk').2
   omega
 refine ⟨fun x hx => ?_, ?_⟩
 ·obtain ⟨j, hj, rfl⟩ := List.getElem_of_mem hx
  have hj' : j < L.length := by simpa using hj
  have hs := hset j hj'
  rw [List.getElem?_eq_getElem hj] at hs
  by_cases e : j = i
  ·rw [if_pos e] at hs
   rw [Option.some.inj hs]
   exact ho
  ·rw [if_neg e, List.getElem?_eq_getElem hj'] at hs
   rw [Option.some.inj hs]
   exact Q0y (h.own _ (List.getElem_mem hj')) hg (fun k hk => h.ne (Ne.symm e) hi (List.getElem?_eq_getElem hj') k hk)
 ·rw [List.pairwise_iff_getElem]
  intro a b ha hb hab
  have ha' : a < L.length := by simpa using ha
  have hb' : b < L.length := by simpa using hb
  have sa := hset a ha'
  have sb := hset b hb'
  rw [List.getElem?_eq_getElem ha] at sa
  rw [List.getElem?_eq_getElem hb] at sb
  by_cases ea : a = i
  ·rw [if_pos ea] at sa
   have eb : b ≠ i := by omega
   rw [if_neg eb] at sb
   rw [Option.some.inj sa]
   exact hap b _ eb sb.symm
  ·rw [if_neg ea] at sa
   by_cases eb : b = i
   ·rw [if_pos eb] at sb
    rw [Option.some.inj sb]
    intro k hk hk'
    exact hap a _ ea sa.symm k hk' hk
   ·rw [if_neg eb] at sb
    exact h.ne (by omega) sa.symm sb.symm
theorem Fam.put (h : Fam w B L) {i k n cap x : Nat} {l : List Int} (hi : L[i]? = some (.slice (some ⟨k, 0, none⟩) n cap, l)) (z : Int) : Fam (w.setCell ⟨k, x, none⟩ (.int .i64 z)) B (L.set i (.slice (some ⟨k, 0, none⟩) n cap, l.set x z)) := by
 have ho := h.at_ hi
 obtain rfl : n = l.length := by
  rcases ho.2 with ⟨h0, -⟩ | ⟨g, c, cur, hv, -⟩
  ·cases h0
  ·simp only [Value.slice.injEq] at hv
   exact hv.2.1
 refine h.set_ hi (Q3q w ⟨k, x, none⟩ _) ?_ (fun j hj => .inl hj)
 have := (ho.stored x (.int .i64 z)).1
 rw [List.length_set, List.map_set]
 exact this
end
def Lo (B : Nat) (w : World) (j : Nat) : Prop := B ≤ j ∧ ∃ t cs, Blk w j t cs ∧ (t = 67 ∨ t = 2 ∨ t = 52 ∨ t = 79)
def Q03 (B : Nat) (w w' : World) : Prop := Turn (Lo B w) w w'
section
variable {w w' w'' : World} {B : Nat}
theorem Q03.refl (w : World) : Q03 B w w := Turn.refl w
theorem Q03.ofExt (h : Ext w w') : Q03 B w w' := Turn.ofExt h
theorem Q03.trans (h : Q03 B w w') (k : Q03 B w' w'') : Q03 B w w'' := by
 refine Turn.trans (S' := Lo B w') h k fun j hj hl => ?_
 by_cases e : Lo B w j
 ·exact e
 ·obtain ⟨h1, t, cs, hb, ht⟩ := hl
  refine ⟨h1, t, cs, ?_, ht⟩
  unfold Blk at hb ⊢
  rw [← Turn.block h j hj e]
  exact hb
theorem Q03.ext (h : Q03 B w w') (k : Ext w' w'') : Q03 B w w'' := h.trans (Q03.ofExt k)
theorem Q03.blk (h : Q03 B w w') {k : Nat} {t : TypeId} {cs : Array Value} (hb : Blk w k t cs) (h1 : t ≠ 67) (h2 : t ≠ 2) (h3 : t ≠ 52) (h4 : t ≠ 79) : Blk w' k t cs := by
 refine hb.turn h ?_
 rintro ⟨-, t', cs', hb', ht⟩
 unfold Blk at hb hb'
 rw [hb] at hb'
 simp only [Option.some.injEq, Obj.cells.injEq, and_true] at hb'
 obtain ⟨-, rfl⟩ := hb'
 rcases ht with e | e | e | e
 ·exact h1 e
 ·exact h2 e
 ·exact h3 e
 ·exact h4 e
theorem Q03.below (h : Q03 B w w') (hB : B ≤ w.heap.size) : Below B w w' := Turn.below h hB fun j hj => hj.1
theorem Q03.box {g : Nat} {cs : Array Value} (hb : Blk w g 67 cs) (hg : B ≤ g) (i : Nat) (u : Value) : Q03 B w (w.setCell ⟨g, i, none⟩ u) :=
 (Turn.set w ⟨g, i, none⟩ u).mono fun j e => by
  obtain rfl : j = g := e
  exact ⟨hg, _, _, hb, .inl rfl⟩
theorem Qgs {e : TypeId} {s n : Nat} {v : Value} {xs : List Value} (h : w.ownsRow B e s v n xs) (he : e = 2 ∨ e = 52 ∨ e = 79) {j : Nat} (hj : v.ownBlock = some j) : Lo B w j := by
 rcases h.2 with ⟨rfl, -⟩ | ⟨k, cap, cur, rfl, h1, h2, -⟩
 ·cases hj
 ·obtain rfl : k = j := by simpa [Value.ownBlock] using hj
  exact ⟨h1, e, cur, h2, .inr he⟩
theorem Q03.grown {e : TypeId} {s n : Nat} {v : Value} {xs : List Value} (h : w.ownsRow B e s v n xs) (he : e = 2 ∨ e = 52 ∨ e = 79) (hg : w.grownBy w' v.ownBlock) : Q03 B w w' :=
 (Turn.grown hg).mono fun j hj => Qgs h he hj
end
end Go.Proofs.Ytalpnmjaafcpoaa
