/- Laid together from: Ref3a, Ref3b, Ref3c, Seq1, RegW, Fam, PlayP. -/
import Derived.Test.YtceocimckkgaoaaFindSameB20
import Derived.Test.YtceocimckkgaoaaFindSameB16
import Derived.Test.YtceocimckkgaoaaFindSameB18
import Derived.Test.YtceocimckkgaoaaFindSameB6
import Derived.Test.YtceocimckkgaoaaFindSameB10
import Derived.Test.YtceocimckkgaoaaFindSameB4
import Derived.Test.YtceocimckkgaoaaFindSameB14

namespace Go.Proofs.Ytceocimckkgaoaa
open Go.ChangeShapes Go.WideShapes Go.ChangeAt Go.RowKit
set_option linter.unusedVariables false
set_option linter.unusedSimpArgs false
def insV (i : LIns) : Value := .agg #[.int .i64 i.op, .int .i64 i.a, .int .i64 i.b, .int .i64 i.c, .int .i64 i.n]
theorem Qd7 {oa : Option Addr} {n b o cap : Nat} (h : 0 < n → oa = some ⟨b, o, none⟩) (W : World) (i : Int) (h0 : 0 ≤ i) (h1 : i < n) :
  (Instr.indexAt 57 (.slice oa n cap) (.int .i64 i)).run Try.prog W = .ok (.pointer (some ⟨b, o + i.toNat, none⟩)) W := by
 obtain rfl := h (by omega)
 have hs : (Try.prog.info? 57).isSome = true := by kernel_rfl
 have hs : (Try.prog.info? 2).map (·.size) = some 1 := by kernel_rfl
 simp [Instr.indexAt, run_underlying Try.underlying57, asIntOf, h0, h1]
 exact Q2m b o _
theorem Q5b (W : World) (k n cap : Nat) (i : Int) (h0 : 0 ≤ i) (h1 : i < n) :
  (Instr.indexAt 57 (.slice (some ⟨k, 0, none⟩) n cap) (.int .i64 i)).run Try.prog W = .ok (.pointer (some ⟨k, i.toNat, none⟩)) W := by
 have := Qd7 (oa := some ⟨k, 0, none⟩) (n := n) (b := k) (o := 0) (cap := cap) (fun _ => rfl) W i h0 h1
 simpa using this
theorem Qd1 : (Try.prog.info? 45).map (fun i => (i.zero, i.size, i.bytes)) = some (some (.agg #[.int .i64 0, .int .i64 0, .int .i64 0]), 3, 24) := by kernel_rfl
theorem Q5a : (Try.prog.info? 2).map (fun i => (i.zero, i.size, i.bytes)) = some (some (.int .i64 0), 1, 8) := by kernel_rfl
theorem Q34 {l : List Int} {i : LIns} (h : ¬ (i.op = 29 ∨ i.op = 30)) : Q1a l i = [] := by unfold Q1a; rw [if_neg h]
theorem index_mem' {oa : Option Addr} {n b o cap : Nat} (h : 0 < n → oa = some ⟨b, o, none⟩) (W : World) (i : Int) (h0 : 0 ≤ i) (h1 : i < n) :
  (Instr.indexAt 26 (.slice oa n cap) (.int .i64 i)).run Try.prog W = .ok (.pointer (some ⟨b, o + i.toNat, none⟩)) W := by
 obtain rfl := h (by omega)
 have hs : (Try.prog.info? 57).map (·.size) = some 1 := by kernel_rfl
 simp [Instr.indexAt, run_underlying Try.underlying26, asIntOf, h0, h1]
 exact Q2m b o _
theorem Qd2 : (Try.prog.info? 57).map (fun i => (i.zero, i.size, i.bytes)) = some (some (.slice none 0 0), 1, 24) := by kernel_rfl
section
variable {w0 wr w' : World} {U gs k : Nat} {vS vM : Value} {fin value : Int} {steps : Nat} {regs : List Int} {seen : List LSee} {mem : List (List Int)}
end
theorem Q15.far {w : World} {B U : Nat} {T E : TypeId} {v : Value} {m : List (List Int)} (h : Q15 w B U T E v m) {p : Addr} (hp : p.block < B) (u : Value) : Q15 (w.setCell p u) B U T E v m := by
 obtain ⟨vs, h1, h2, h3, h4, h5⟩ := h
 have key : ∀ {e : TypeId} {s n : Nat} {v : Value} {xs : List Value}, w.ownsRow B e s v n xs → (w.setCell p u).ownsRow B e s v n xs := fun ho =>
  Q0u ho (fun e => by have := Q2c ho _ e.symm; omega) u
 exact ⟨vs, h1, key h2, h3, fun i hi => ⟨key (h4 i hi).1, (h4 i hi).2⟩, h5⟩
structure MOk (p : Q00) (M : Mach) : Prop where
 len : M.regs.length = 10
 r64 : Q0s M.regs
 wlen : M.words.length = Q0y p
 w64 : Q0s M.words
theorem MOk.step {p : Q00} {M : Mach} {i : LIns} (h : MOk p M) (hi : i.fits) : MOk p (Q79 p i M) := by
 unfold Q79
 obtain ⟨h1, h2, h3, h4⟩ := h
 simp only
 repeat' split
 all_goals first
  | exact ⟨h1, h2, h3, h4⟩
  | exact ⟨h1, h2, by simpa using h3, h4.set _ (h2 _)⟩
  | exact ⟨by rw [Q32]; exact h1, h2.rset _ (h4 _), h3, h4⟩
  | exact ⟨by rw [Q80]; exact h1, Q91 h2 hi.2.2.2.2, h3, h4⟩
theorem Q6t {l : List Int} (h : ∀ x ∈ l, R64 x) : Q0s l := fun n => by
 by_cases hn : n < l.length
 ·have : l.getD n 0 = l[n] := by simp [hn]
  rw [this]; exact h _ (List.getElem_mem hn)
 ·rw [List.getD_eq_getElem?_getD, List.getElem?_eq_none (by omega)]
  exact Q3q
theorem Q0s.mem {l : List Int} (h : Q0s l) : ∀ x ∈ l, R64 x := fun x hx => by
 obtain ⟨n, hn, rfl⟩ := List.getElem_of_mem hx
 have := h n
 simpa [hn] using this
theorem Q9a {p : Q00} {i : LIns} (hok : Q03 p 10 i = true) (h : i.op = 3 ∨ i.op = 4 ∨ i.op = 5 ∨ i.op = 6) : okIn 10 i.a = true ∧ okIn 10 i.b = true ∧ 0 ≤ i.c ∧ i.c.toNat < p.regs.length := by
 have hr : (Q0x i || Q1m i) = true := by unfold Q0x Q1m; rcases h with h | h | h | h <;> simp [h]
 have hc := Qar hok hr
 refine ⟨?_, ?_, hc⟩ <;> (unfold Q03 at hok; rcases h with h | h | h | h <;> simp [h, okIn] at hok ⊢ <;> omega)
structure Turn (S : Nat → Prop) (w w' : World) : Prop where
 os : w'.os = w.os
 tape : w'.tape = w.tape
 output : w'.output = w.output
 size : w.heap.size ≤ w'.heap.size
 block : ∀ j, j < w.heap.size → ¬ S j → w'.heap[j]? = w.heap[j]?
section
variable {S S' : Nat → Prop} {w w' w'' : World}
theorem Turn.ofExt (h : Ext w w') : Turn S w w' := ⟨h.os, h.tape, h.output, h.size, fun j hj _ => Below.block h j hj⟩
theorem Turn.refl (w : World) : Turn S w w := Turn.ofExt (Ext.refl w)
theorem Turn.trans (h : Turn S w w') (k : Turn S' w' w'') (hs : ∀ j, j < w.heap.size → S' j → S j) : Turn S w w'' :=
 ⟨k.os.trans h.os, k.tape.trans h.tape, k.output.trans h.output, Nat.le_trans h.size k.size, fun j hj hn => (k.block j (Nat.lt_of_lt_of_le hj h.size) (fun e => hn (hs j hj e))).trans (h.block j hj hn)⟩
theorem Turn.ext (h : Turn S w w') (k : Ext w' w'') : Turn S w w'' := h.trans (Turn.ofExt (S := S) k) (fun _ _ e => e)
theorem Turn.grown {row : Option Nat} (h : w.grownBy w' row) : Turn (fun j => row = some j) w w' := ⟨h.os, h.tape, h.output, h.size, fun j hj hn => h.block j hj (fun e => hn e.symm)⟩
theorem Turn.set (w : World) (p : Addr) (u : Value) : Turn (fun j => j = p.block) w (w.setCell p u) := ⟨rfl, rfl, rfl, by simp [World.setCell], fun j hj hn => Below.heap_setCell w p u j hn⟩
theorem Turn.mono (h : Turn S w w') (hs : ∀ j, S j → S' j) : Turn S' w w' := ⟨h.os, h.tape, h.output, h.size, fun j hj hn => h.block j hj (fun e => hn (hs j e))⟩
theorem Turn.below {B : Nat} (h : Turn S w w') (hB : B ≤ w.heap.size) (hs : ∀ j, S j → B ≤ j) : Below B w w' :=
 ⟨h.os, h.tape, h.output, h.size, fun j hj => h.block j (Nat.lt_of_lt_of_le hj hB) (fun e => by have := hs j e; omega)⟩
theorem Blk.turn {g : Nat} {t : TypeId} {cs : Array Value} (h : Blk w g t cs) (ht : Turn S w w') (hn : ¬ S g) : Blk w' g t cs := (ht.block g h.lt hn).trans h
theorem Q26 {base : Nat} {e : TypeId} {size n : Nat} {v : Value} {xs : List Value} (h : w.ownsRow base e size v n xs) (ht : Turn S w w') (hn : ∀ k, v.ownBlock = some k → ¬ S k) : w'.ownsRow base e size v n xs := by
 refine ⟨h.1, ?_⟩
 rcases h.2 with h | ⟨g, cap, cur, rfl, h1, h2, h3⟩
 ·exact .inl h
 ·exact .inr ⟨g, cap, cur, rfl, h1, (ht.block g (Array.getElem?_eq_some_iff.1 h2).1 (hn g rfl)).trans h2, h3⟩
end
def Q05 (vR vC : Value) (fin value : Int) (steps : Nat) (vS vM : Value) (regs : List Int) (vW : Value) (at_ : Nat) (vB : Value) : List Value :=
 [vR, vC, .int .i64 fin, .int .i64 value, .int .i64 steps, vS, vM] ++ (regs.map (Value.int .i64) ++ [vW, .int .i64 at_, vB])
section
variable {vR vC vS vM vW vB u : Value} {fin value x : Int} {steps at_ : Nat} {regs : List Int}
theorem Q8i (h : regs.length = 10) : (Q05 vR vC fin value steps vS vM regs vW at_ vB).toArray.size = 20 := by simp [Q05, h]
theorem Qca (h : regs.length = 10) {a : Int} (ha : a.toNat < 10) : (Q05 vR vC fin value steps vS vM regs vW at_ vB).toArray[7 + a.toNat]? = some (.int .i64 (rg regs a)) := by
 have h2 : a.toNat < regs.length := by omega
 rw [List.getElem?_toArray]
 unfold Q05
 rw [List.getElem?_append_right (by simp), List.getElem?_append_left (by simp; omega)]
 simp [rg, h2]
theorem Qc5 (h : regs.length = 10) {a : Int} (ha : a.toNat < 10) : (Q05 vR vC fin value steps vS vM regs vW at_ vB).toArray.setIfInBounds (7 + a.toNat) (.int .i64 x) = (Q05 vR vC fin value steps vS vM (rset regs a x) vW at_ vB).toArray := by
 have h2 : a.toNat < (regs.map (Value.int .i64)).length := by simp; omega
 rw [List.setIfInBounds_toArray]
 unfold Q05 rset
 rw [List.set_append_right _ _ (by simp), List.set_append_left _ _ (by simp; omega), List.map_set]
 simp
theorem Qc7 : (Q05 vR vC fin value steps vS vM regs vW at_ vB).toArray.setIfInBounds 2 (.int .i64 x) = (Q05 vR vC x value steps vS vM regs vW at_ vB).toArray := by simp [Q05]
theorem Qc2 : (Q05 vR vC fin value steps vS vM regs vW at_ vB).toArray.setIfInBounds 3 (.int .i64 x) = (Q05 vR vC fin x steps vS vM regs vW at_ vB).toArray := by simp [Q05]
theorem Qc3 {k : Nat} : (Q05 vR vC fin value steps vS vM regs vW at_ vB).toArray.setIfInBounds 4 (.int .i64 (k : Int)) = (Q05 vR vC fin value k vS vM regs vW at_ vB).toArray := by simp [Q05]
theorem Qc4 : (Q05 vR vC fin value steps vS vM regs vW at_ vB).toArray.setIfInBounds 5 u = (Q05 vR vC fin value steps u vM regs vW at_ vB).toArray := by simp [Q05]
theorem Qc6 : (Q05 vR vC fin value steps vS vM regs vW at_ vB).toArray.setIfInBounds 6 u = (Q05 vR vC fin value steps vS u regs vW at_ vB).toArray := by simp [Q05]
theorem Qc1 (h : regs.length = 10) : (Q05 vR vC fin value steps vS vM regs vW at_ vB).toArray.setIfInBounds 17 u = (Q05 vR vC fin value steps vS vM regs u at_ vB).toArray := by simp [Q05, List.set_append, h]
theorem Qc9 (h : regs.length = 10) {k : Nat} : (Q05 vR vC fin value steps vS vM regs vW at_ vB).toArray.setIfInBounds 18 (.int .i64 (k : Int)) = (Q05 vR vC fin value steps vS vM regs vW k vB).toArray := by simp [Q05, List.set_append, h]
theorem Qc8 (h : regs.length = 10) : (Q05 vR vC fin value steps vS vM regs vW at_ vB).toArray.setIfInBounds 19 u = (Q05 vR vC fin value steps vS vM regs vW at_ u).toArray := by simp [Q05, List.set_append, h]
end
structure MSt (w : World) (B g : Nat) (vR vC vM vB vS vW : Value) (bases : List Int) (M : Mach) : Prop where
 box : Blk w g 63 (Q05 vR vC M.fin M.value M.steps vS vM M.regs vW M.at_ vB).toArray
 sn : w.ownsRow B 45 3 vS M.seen.length (M.seen.flatMap Q2s)
 ws : w.ownsRow B 2 1 vW M.words.length (M.words.map (Value.int .i64))
 bs : w.ownsRow B 3 1 vB bases.length (bases.map (Value.int .i64))
 len : M.regs.length = 10
 hg : B ≤ g
section
variable {w w' : World} {B g : Nat} {vR vC vM vB vS vW : Value} {bases : List Int} {M : Mach}
theorem MSt.size (h : MSt w B g vR vC vM vB vS vW bases M) : B ≤ w.heap.size := by have := h.box.lt; have := h.hg; omega
theorem MSt.ext (h : MSt w B g vR vC vM vB vS vW bases M) (hx : Ext w w') : MSt w' B g vR vC vM vB vS vW bases M :=
 ⟨h.box.ext hx, Q27 h.sn hx, Q27 h.ws hx, Q27 h.bs hx, h.len, h.hg⟩
theorem MSt.gs (h : MSt w B g vR vC vM vB vS vW bases M) : some g ≠ vS.ownBlock := Q0d h.sn h.box (by decide)
theorem MSt.gw (h : MSt w B g vR vC vM vB vS vW bases M) : some g ≠ vW.ownBlock := Q0d h.ws h.box (by decide)
theorem MSt.gb (h : MSt w B g vR vC vM vB vS vW bases M) : some g ≠ vB.ownBlock := Q0d h.bs h.box (by decide)
theorem MSt.put (h : MSt w B g vR vC vM vB vS vW bases M) (i : Nat) (u : Value) {M' : Mach} (h1 : M'.seen = M.seen) (h2 : M'.words = M.words) (h3 : M'.regs.length = 10)
  (hc : (Q05 vR vC M.fin M.value M.steps vS vM M.regs vW M.at_ vB).toArray.setIfInBounds i u = (Q05 vR vC M'.fin M'.value M'.steps vS vM M'.regs vW M'.at_ vB).toArray) :
  MSt (w.setCell ⟨g, i, none⟩ u) B g vR vC vM vB vS vW bases M' :=
 ⟨by rw [← hc]; exact h.box.set_ i u, by rw [h1]; exact Q0u h.sn h.gs u, by rw [h2]; exact Q0u h.ws h.gw u, Q0u h.bs h.gb u, h3, h.hg⟩
theorem MSt.fin_ (h : MSt w B g vR vC vM vB vS vW bases M) (x : Int) : MSt (w.setCell ⟨g, 2, none⟩ (.int .i64 x)) B g vR vC vM vB vS vW bases { M with fin := x } := h.put 2 _ rfl rfl h.len Qc7
theorem MSt.value_ (h : MSt w B g vR vC vM vB vS vW bases M) (x : Int) : MSt (w.setCell ⟨g, 3, none⟩ (.int .i64 x)) B g vR vC vM vB vS vW bases { M with value := x } := h.put 3 _ rfl rfl h.len Qc2
theorem MSt.steps_ (h : MSt w B g vR vC vM vB vS vW bases M) (k : Nat) : MSt (w.setCell ⟨g, 4, none⟩ (.int .i64 (k : Int))) B g vR vC vM vB vS vW bases { M with steps := k } := h.put 4 _ rfl rfl h.len Qc3
theorem MSt.at__ (h : MSt w B g vR vC vM vB vS vW bases M) (k : Nat) : MSt (w.setCell ⟨g, 18, none⟩ (.int .i64 (k : Int))) B g vR vC vM vB vS vW bases { M with at_ := k } := h.put 18 _ rfl rfl h.len (Qc9 h.len)
theorem MSt.reg_ (h : MSt w B g vR vC vM vB vS vW bases M) {a : Int} (ha : okIn 10 a = true) (x : Int) : MSt (w.setCell ⟨g, 7 + a.toNat, none⟩ (.int .i64 x)) B g vR vC vM vB vS vW bases { M with regs := rset M.regs a x } := by
 obtain ⟨h0, h1⟩ := Q0w.1 ha
 exact h.put _ _ rfl rfl (by rw [Q32]; exact h.len) (Qc5 h.len (by omega))
theorem MSt.show_ (h : MSt w B g vR vC vM vB vS vW bases M) {vS' : Value} {s : List LSee} (hg : w.grownBy w' vS.ownBlock) (ho : w'.ownsRow B 45 3 vS' s.length (s.flatMap Q2s)) :
  MSt (w'.setCell ⟨g, 5, none⟩ vS') B g vR vC vM vB vS' vW bases { M with seen := s } := by
 have hb := h.box.grown hg h.gs
 have hne : some g ≠ vS'.ownBlock := Q0d ho hb (by decide)
 have hw := Q1d h.ws hg (fun k hk he => Q1z h.sn h.ws (by decide) k hk he)
 have hbs := Q1d h.bs hg (fun k hk he => Q1z h.sn h.bs (by decide) k hk he)
 exact ⟨by rw [← Qc4 (u := vS')]; exact hb.set_ 5 vS', Q0u ho hne _, Q0u hw h.gw _, Q0u hbs h.gb _, h.len, h.hg⟩
theorem MSt.word (h : MSt w B g vR vC vM vB vS vW bases M) {x k cap : Nat} (hv : vW = .slice (some ⟨k, 0, none⟩) M.words.length cap) (z : Int) :
  MSt (w.setCell ⟨k, x, none⟩ (.int .i64 z)) B g vR vC vM vB vS vW bases { M with words := M.words.set x z } := by
 subst hv
 have hws := h.ws
 have hkg := h.gw
 have hset := Q49 w ⟨k, x, none⟩ (.int .i64 z)
 refine ⟨h.box.far (p := ⟨k, x, none⟩) (by intro e; exact hkg (by simp [Value.ownBlock, e])) _, Q1d h.sn hset (fun j e he => Q1z h.sn h.ws (by decide) j he (by simpa [Value.ownBlock] using e)), ?_,
  Q1d h.bs hset (fun j e he => Q1z h.bs h.ws (by decide) j he (by simpa [Value.ownBlock] using e)), h.len, h.hg⟩
 have := (hws.stored x (.int .i64 z)).1
 simp only [List.length_set]
 rw [List.map_set]
 exact this
theorem MSt.cells (h : MSt w B g vR vC vM vB vS vW bases M) :
  (w.cell? ⟨g, 0, none⟩ = some vR ∧ w.frozen? ⟨g, 0, none⟩ = false) ∧ (w.cell? ⟨g, 1, none⟩ = some vC ∧ w.frozen? ⟨g, 1, none⟩ = false) ∧ (w.cell? ⟨g, 2, none⟩ = some (.int .i64 M.fin) ∧ w.frozen? ⟨g, 2, none⟩ = false) ∧
  (w.cell? ⟨g, 3, none⟩ = some (.int .i64 M.value) ∧ w.frozen? ⟨g, 3, none⟩ = false) ∧ (w.cell? ⟨g, 4, none⟩ = some (.int .i64 M.steps) ∧ w.frozen? ⟨g, 4, none⟩ = false) ∧ (w.cell? ⟨g, 5, none⟩ = some vS ∧ w.frozen? ⟨g, 5, none⟩ = false) ∧
  (w.cell? ⟨g, 6, none⟩ = some vM ∧ w.frozen? ⟨g, 6, none⟩ = false) ∧ (w.cell? ⟨g, 17, none⟩ = some vW ∧ w.frozen? ⟨g, 17, none⟩ = false) ∧ (w.cell? ⟨g, 18, none⟩ = some (.int .i64 M.at_) ∧ w.frozen? ⟨g, 18, none⟩ = false) ∧
  (w.cell? ⟨g, 19, none⟩ = some vB ∧ w.frozen? ⟨g, 19, none⟩ = false) := by
 have hl := h.len
 refine ⟨⟨?_, h.box.frozen _⟩, ⟨?_, h.box.frozen _⟩, ⟨?_, h.box.frozen _⟩, ⟨?_, h.box.frozen _⟩, ⟨?_, h.box.frozen _⟩, ⟨?_, h.box.frozen _⟩, ⟨?_, h.box.frozen _⟩, ⟨?_, h.box.frozen _⟩, ⟨?_, h.box.frozen _⟩, ⟨?_, h.box.frozen _⟩⟩ <;>
  (rw [h.box.cell]; simp [Q05, List.getElem?_append, hl])
theorem MSt.reg (h : MSt w B g vR vC vM vB vS vW bases M) {a : Int} (ha : okIn 10 a = true) : w.cell? ⟨g, 7 + a.toNat, none⟩ = some (.int .i64 (rg M.regs a)) ∧ w.frozen? ⟨g, 7 + a.toNat, none⟩ = false := by
 obtain ⟨h0, h1⟩ := Q0w.1 ha
 exact ⟨by rw [h.box.cell]; exact Qca h.len (by omega), h.box.frozen _⟩
def Q5i (w w' : World) (B g : Nat) (vR vC vM vB vS vW : Value) (bases : List Int) (M' : Mach) : Prop :=
 ∃ vS', MSt w' B g vR vC vM vB vS' vW bases M' ∧ Turn (fun j => j = g ∨ vS.ownBlock = some j) w w' ∧ (∀ j, vS'.ownBlock = some j → vS.ownBlock = some j ∨ w.heap.size ≤ j)
theorem Q5i.keep {w1 : World} {M' : Mach} (h : MSt w' B g vR vC vM vB vS vW bases M') (ht : Turn (fun j => j = g ∨ vS.ownBlock = some j) w w') : Q5i w w' B g vR vC vM vB vS vW bases M' := ⟨vS, h, ht, fun _ e => .inl e⟩
end
theorem own_at' {w : World} {B : Nat} {e : TypeId} {v : Value} {n : Nat} {xs : List Value} (h : w.ownsRow B e 1 v n xs) (hn : 0 < n) : ∃ k cap, v = .slice (some ⟨k, 0, none⟩) n cap ∧ B ≤ k ∧ ∀ j x, j < n → xs[j]? = some x → w.cell? ⟨k, j, none⟩ = some x ∧ w.frozen? ⟨k, j, none⟩ = false := by
 have h' := h
 rcases h.2 with ⟨-, h0⟩ | ⟨k, cap, cur, rfl, a1, a2, a3⟩
 ·omega
 ·exact ⟨k, cap, rfl, a1, fun j x hj hx => ⟨by rw [h'.cellAt j (by omega), hx], h'.frozenAt j⟩⟩
structure Fam (w : World) (B : Nat) (L : List (Value × List Int)) : Prop where
 own : ∀ x ∈ L, w.ownsRow B 2 1 x.1 x.2.length (x.2.map (Value.int .i64))
 apart : L.Pairwise fun x y => ∀ k, x.1.ownBlock = some k → y.1.ownBlock ≠ some k
section
variable {w w' : World} {B B' : Nat} {L L' : List (Value × List Int)}
theorem own_mono' {w : World} {b b' : Nat} {e : TypeId} {s n : Nat} {v : Value} {xs : List Value} (h : w.ownsRow b e s v n xs) (hb : b' ≤ b) : w.ownsRow b' e s v n xs := by
 refine ⟨h.1, ?_⟩
 rcases h.2 with h | ⟨g, cap, cur, rfl, h1, h2, h3⟩
 ·exact .inl h
 ·exact .inr ⟨g, cap, cur, rfl, by omega, h2, h3⟩
theorem Fam.nil (w : World) (B : Nat) : Fam w B [] := ⟨fun x h => by simp at h, List.Pairwise.nil⟩
theorem Fam.ext (h : Fam w B L) (hx : Ext w w') : Fam w' B L := ⟨fun x k => Q27 (h.own x k) hx, h.apart⟩
theorem Fam.mono (h : Fam w B L) (hB : B' ≤ B) : Fam w B' L := ⟨fun x k => own_mono' (h.own x k) hB, h.apart⟩
theorem Fam.kept (h : Fam w B L) {row : Option Nat} (hg : w.grownBy w' row) (hne : ∀ x ∈ L, ∀ k, row = some k → x.1.ownBlock ≠ some k) : Fam w' B L :=
 ⟨fun x k => Q1d (h.own x k) hg (hne x k), h.apart⟩
theorem Fam.far (h : Fam w B L) {g : Nat} {t : TypeId} {cs : Array Value} (hb : Blk w g t cs) (ht : 2 ≠ t) (i : Nat) (u : Value) : Fam (w.setCell ⟨g, i, none⟩ u) B L :=
 ⟨fun x k => Q0u (p := ⟨g, i, none⟩) (h.own x k) (Q0d (h.own x k) hb ht) u, h.apart⟩
theorem Fam.sub (h : Fam w B L) (hs : L'.Sublist L) : Fam w B L' := ⟨fun x k => h.own x (hs.subset k), h.apart.sublist hs⟩
theorem Fam.size (h : Fam w B L) {x : Value × List Int} (hx : x ∈ L) : ∀ k, x.1.ownBlock = some k → B ≤ k ∧ k < w.heap.size := fun k hk => (h.own x hx).lt k hk
theorem Fam.app (h : Fam w B L) (h' : Fam w B' L') (hB : B ≤ B') (hlt : ∀ x ∈ L, ∀ k, x.1.ownBlock = some k → k < B') : Fam w B (L ++ L') := by
 refine ⟨fun x hx => ?_, ?_⟩
 ·rcases List.mem_append.1 hx with k | k
  ·exact h.own x k
  ·exact own_mono' (h'.own x k) hB
 ·rw [List.pairwise_append]
  refine ⟨h.apart, h'.apart, fun a ha b hb k hk hk' => ?_⟩
  have h1 := hlt a ha k hk
  have h2 := (h'.size hb k hk').1
  omega
theorem Fam.ne (h : Fam w B L) {i j : Nat} (hij : i ≠ j) {x y : Value × List Int} (hi : L[i]? = some x) (hj : L[j]? = some y) : ∀ k, x.1.ownBlock = some k → y.1.ownBlock ≠ some k := by
 obtain ⟨hi1, rfl⟩ := List.getElem?_eq_some_iff.1 hi
 obtain ⟨hj1, rfl⟩ := List.getElem?_eq_some_iff.1 hj
 have hp := List.pairwise_iff_getElem.1 h.apart
 intro k hk hk'
 rcases Nat.lt_or_gt_of_ne hij with hl | hl
 ·exact hp i j hi1 hj1 hl k hk hk'
 ·exact hp j i hj1 hi1 hl k hk' hk
theorem Fam.at_ (h : Fam w B L) {i : Nat} {v : Value} {l : List Int} (hi : L[i]? = some (v, l)) : w.ownsRow B 2 1 v l.length (l.map (Value.int .i64)) := by
 obtain ⟨hi1, e⟩ := List.getElem?_eq_some_iff.1 hi
 have := h.own _ (List.getElem_mem hi1)
 rw [e] at this
 exact this
theorem Fam.set_ (h : Fam w B L) {i : Nat} {v v' : Value} {l l' : List Int} (hi : L[i]? = some (v, l)) (hg : w.grownBy w' v.ownBlock) (ho : w'.ownsRow B 2 1 v' l'.length (l'.map (Value.int .i64)))
  (hat : ∀ k, v'.ownBlock = some k → v.ownBlock = some k ∨ w.heap.size ≤ k) : Fam w' B (L.set i (v', l')) := by
 have hi1 := (List.getElem?_eq_some_iff.1 hi).1
 have hset : ∀ j, j < L.length → (L.set i (v', l'))[j]? = if j = i then some (v', l') else L[j]? := fun j hj => by
  rw [List.getElem?_set]
  by_cases e : i = j
  ·subst e; simp [hj]
  ·rw [if_neg e, if_neg (fun e' => e e'.symm)]
 have hap : ∀ j x, j ≠ i → L[j]? = some x → ∀ k, v'.ownBlock = some k → x.1.ownBlock ≠ some k := fun j x hj hx k hk hk' => by
  rcases hat k hk with h1 | h1
  ·exact h.ne (Ne.symm hj) hi hx k h1 hk'
  ·have := (h.size (List.mem_of_getElem? hx) k hk').2
   omega
 refine ⟨fun x hx => ?_, ?_⟩
 ·obtain ⟨j, hj, rfl⟩ := List.getElem_of_mem hx
  have hj' : j < L.length := by simpa using hj
  have hs := hset j hj'
  rw [List.getElem?_eq_getElem hj] at hs
  by_cases e : j = i
  ·rw [if_pos e] at hs
   rw [Option.some.inj hs]
   exact ho
  ·rw [if_neg e, List.getElem?_eq_getElem hj'] at hs
   rw [Option.some.inj hs]
   exact Q1d (h.own _ (List.getElem_mem hj')) hg (fun k hk => h.ne (Ne.symm e) hi (List.getElem?_eq_getElem hj') k hk)
 ·rw [List.pairwise_iff_getElem]
  intro a b ha hb hab
  have ha' : a < L.length := by simpa using ha
  have hb' : b < L.length := by simpa using hb
  have sa := hset a ha'
  have sb := hset b hb'
  rw [List.getElem?_eq_getElem ha] at sa
  rw [List.getElem?_eq_getElem hb] at sb
  by_cases ea : a = i
  ·rw [if_pos ea] at sa
   have eb : b ≠ i := by omega
   rw [if_neg eb] at sb
   rw [Option.some.inj sa]
   exact hap b _ eb sb.symm
  ·rw [if_neg ea] at sa
   by_cases eb : b = i
   ·rw [if_pos eb] at sb
    rw [Option.some.inj sb]
    intro k hk hk'
    exact hap a _ ea sa.symm k hk' hk
   ·rw [if_neg eb] at sb
    exact h.ne (by omega) sa.symm sb.symm
theorem Fam.put (h : Fam w B L) {i k n cap x : Nat} {l : List Int} (hi : L[i]? = some (.slice (some ⟨k, 0, none⟩) n cap, l)) (z : Int) : Fam (w.setCell ⟨k, x, none⟩ (.int .i64 z)) B (L.set i (.slice (some ⟨k, 0, none⟩) n cap, l.set x z)) := by
 have ho := h.at_ hi
 obtain rfl : n = l.length := by
  rcases ho.2 with ⟨h0, -⟩ | ⟨g, c, cur, hv, -⟩
  ·cases h0
  ·simp only [Value.slice.injEq] at hv
   exact hv.2.1
 refine h.set_ hi (Q49 w ⟨k, x, none⟩ _) ?_ (fun j hj => .inl hj)
 have := (ho.stored x (.int .i64 z)).1
 rw [List.length_set, List.map_set]
 exact this
end
section
variable {w w' w'' : World} {B : Nat}
end
end Go.Proofs.Ytceocimckkgaoaa

namespace Go.Proofs.Ytceocimckkgaoaa
open Go.RowKit
set_option linter.unusedVariables false
set_option linter.unusedSimpArgs false
structure PlOk (p : Q00) (n : Nat) (P : Plc) : Prop where
 len : P.regs.length = 10
 r64 : Q0s P.regs
 wlen : P.words.length = Q0y p
 w64 : Q0s P.words
 plen : P.past.length = Q0y p
 past : ∀ l ∈ P.past, l.length ≤ n ∧ Q0s l
 at_ : P.at_ ≤ p.code.length
section
variable {p : Q00} {n m k : Nat} {P : Plc}
theorem PlOk.mono (h : PlOk p n P) (hn : n ≤ m) : PlOk p m P := ⟨h.len, h.r64, h.wlen, h.w64, h.plen, fun l hl => ⟨Nat.le_trans (h.past l hl).1 hn, (h.past l hl).2⟩, h.at_⟩
theorem PlOk.goTo (h : PlOk p n P) (hk : k ≤ p.code.length) : PlOk p n { P with at_ := k } := ⟨h.len, h.r64, h.wlen, h.w64, h.plen, h.past, hk⟩
theorem PlOk.reg (h : PlOk p n P) (a : Int) {v : Int} (hv : R64 v) : PlOk p n { P with regs := rset P.regs a v } := ⟨by rw [Q32]; exact h.len, h.r64.rset a hv, h.wlen, h.w64, h.plen, h.past, h.at_⟩
theorem PlOk.plain (h : PlOk p n P) {i : LIns} (hi : i.fits) : PlOk p n { P with regs := Q13 P.regs i } := ⟨by rw [Q80]; exact h.len, Q91 h.r64 hi.2.2.2.2, h.wlen, h.w64, h.plen, h.past, h.at_⟩
theorem PlOk.row (h : PlOk p n P) (x : Nat) : (P.past.getD x []).length ≤ n ∧ Q0s (P.past.getD x []) := by
 by_cases hx : x < P.past.length
 ·have e : P.past.getD x [] = P.past[x] := by simp [hx]
  rw [e]
  exact h.past _ (List.getElem_mem hx)
 ·rw [List.getD_eq_getElem?_getD, List.getElem?_eq_none (by omega)]
  exact ⟨Nat.zero_le _, fun j => by simp [R64]⟩
theorem PlOk.put (h : PlOk p n P) (x : Nat) {v : Int} (hv : R64 v) : PlOk p (n + 1) { P with past := P.past.set x (P.past.getD x [] ++ [P.words.getD x 0]), words := P.words.set x v } := by
 refine ⟨h.len, h.r64, by simp [h.wlen], h.w64.set x hv, by simp [h.plen], fun l hl => ?_, h.at_⟩
 rcases List.mem_or_eq_of_mem_set hl with e | rfl
 ·exact ⟨by have := (h.past l e).1; omega, (h.past l e).2⟩
 ·obtain ⟨h1, h2⟩ := h.row x
  exact ⟨by rw [List.length_append]; simp only [List.length_cons, List.length_nil]; omega, h2.snoc (h.w64 x)⟩
end
def bN (b : Bool) : Nat := if b then 1 else 0
structure SMid (p : Q00) (n : Nat) (S : Spc) : Prop where
 pl : PlOk p n S.pl
 back : S.ahead = true → PlOk p n S.back
 s0 : -1 ≤ S.since
 s1 : S.since ≤ 12
 s2 : S.ahead = true → S.since ≤ 11
section
variable {p : Q00} {n m k : Nat} {S : Spc}
theorem SMid.mono (h : SMid p n S) (hn : n ≤ m) : SMid p m S := ⟨h.pl.mono hn, fun e => (h.back e).mono hn, h.s0, h.s1, h.s2⟩
theorem SMid.goTo (h : SMid p n S) (hk : k ≤ p.code.length) : SMid p n (S.goTo k) := ⟨h.pl.goTo hk, h.back, h.s0, h.s1, h.s2⟩
theorem SMid.chosen (h : SMid p n S) : SMid p n S.chosen := ⟨h.pl, h.back, h.s0, h.s1, h.s2⟩
theorem SMid.put_ (h : SMid p n S) (a : Int) {v : Int} (hv : R64 v) : SMid p n (S.put_ a v) := ⟨h.pl.reg a hv, h.back, h.s0, h.s1, h.s2⟩
theorem SMid.leave (h : SMid p n S) : SMid p n S.leave := by
 unfold Spc.leave
 cases e : S.ahead
 ·exact ⟨h.pl, fun _ => h.pl, by simp, by simp, by simp⟩
 ·exact h
theorem SMid.seen (h : SMid p n S) (l : List LSee) : SMid p n { S with seen := l } := ⟨h.pl, h.back, h.s0, h.s1, h.s2⟩
theorem SMid.steps (h : SMid p n S) (l : List LSee) (j : Nat) : SMid p n { S with steps := j, seen := l } := ⟨h.pl, h.back, h.s0, h.s1, h.s2⟩
theorem SMid.returns (h : SMid p n S) (ha : S.ahead = true) : SMid p n S.returns := ⟨h.back ha, fun e => by simp [Spc.returns] at e, h.s0, h.s1, fun e => by simp [Spc.returns] at e⟩
theorem SMid.fault (h : SMid p n S) (x : Int) : SMid p n { S with fin := x } := ⟨h.pl, h.back, h.s0, h.s1, h.s2⟩
end
theorem Q6r (b : Bool) : bN b ≤ 1 := by cases b <;> decide
theorem Qbu {p : Q00} {n : Nat} {S : Spc} {i : LIns} (h : SMid p n S) (hlt : S.pl.at_ < p.code.length) (hok : Q03 p 10 i = true) (hi : i.fits) : SMid p (n + 1) (doS p i S) := by
 have hj := (Q3v hok).2.2.2.2.2.2.2.2.2.1
 have hat : S.pl.at_ + 1 ≤ p.code.length := hlt
 unfold doS
 by_cases h7 : i.op = 7
 ·rw [if_pos h7]
  have := (hj (.inl h7)).2
  exact (h.goTo (by omega)).mono (Nat.le_succ _)
 rw [if_neg h7]
 by_cases h8 : i.op = 8
 ·rw [if_pos h8]
  have := (hj (.inr h8)).2
  have hn : i.n.toNat ≤ p.code.length := by omega
  refine SMid.mono ?_ (Nat.le_succ n)
  unfold Q1t
  simp only
  split
  ·exact (h.goTo (by split <;> assumption)).chosen
  ·exact ((h.goTo (by split <;> assumption)).chosen.leave).goTo (by split <;> assumption)
 rw [if_neg h8]
 by_cases h9 : i.op = 9
 ·rw [if_pos h9]
  refine SMid.mono ?_ (Nat.le_succ n)
  split
  ·exact h.goTo hat
  ·exact ⟨h.pl, h.back, h.s0, h.s1, h.s2⟩
 rw [if_neg h9]
 by_cases h12 : i.op = 12
 ·rw [if_pos h12]
  exact (h.goTo hat).mono (Nat.le_succ _)
 rw [if_neg h12]
 split
 ·unfold Q16
  simp only
  split
  ·exact (h.fault 2).mono (Nat.le_succ _)
  ·split
   ·split
    ·exact ⟨(h.pl.put _ (h.pl.r64 _)).goTo (by exact hat), fun e => (h.back e).mono (Nat.le_succ _), h.s0, h.s1, h.s2⟩
    ·refine SMid.mono ?_ (Nat.le_succ n)
     unfold Q1f
     simp only
     have h1 := ((h.seen (S.seen ++ [⟨2, wrap64 (↑(Q07 p i.c.toNat) + Q1n S.pl.regs i), putN i⟩])).goTo (k := S.pl.at_ + 1) hat).chosen.put_ i.a (h.pl.w64 (wrap64 (↑(Q07 p i.c.toNat) + Q1n S.pl.regs i)).toNat)
     split
     ·exact h1.leave.put_ i.a ((h.pl.row _).2 _)
     ·exact h1
   ·have h1 := (h.seen (S.seen ++ [⟨2, wrap64 (↑(Q07 p i.c.toNat) + Q1n S.pl.regs i), putN i⟩])).goTo (k := S.pl.at_ + 1) hat
    split
    ·exact h1.mono (Nat.le_succ _)
    ·exact (h1.put_ i.a Q3q).mono (Nat.le_succ _)
 ·exact ⟨((h.pl.plain hi).goTo (k := S.pl.at_ + 1) hat).mono (Nat.le_succ _), fun e => (h.back e).mono (Nat.le_succ _), h.s0, h.s1, h.s2⟩
theorem Q7h (p : Q00) (i : LIns) (S : Spc) : (doS p i S).seen.length + bN (doS p i S).ahead ≤ S.seen.length + bN S.ahead + 2 := by
 unfold doS
 split
 ·simp only [Spc.goTo]; omega
 split
 ·unfold Q1t
  simp only
  split
  ·simp only [Spc.goTo, Spc.chosen]; omega
  ·simp only [Spc.goTo, Q8k, Spc.chosen]
   refine Nat.le_trans (Nat.add_le_add_left (Q6r _) _) ?_
   omega
 split
 ·split
  ·simp only [Spc.goTo]; omega
  ·simp only; omega
 split
 ·simp only [Spc.goTo]; omega
 split
 ·unfold Q16
  simp only
  split
  ·simp only; omega
  ·split
   ·split
    ·simp only [List.length_append, List.length_cons, List.length_nil]; omega
    ·unfold Q1f
     simp only
     split
     ·simp only [Spc.put_, Q8k, Spc.chosen, Spc.goTo, List.length_append, List.length_cons, List.length_nil]
      refine Nat.le_trans (Nat.add_le_add_left (Q6r _) _) ?_
      omega
     ·simp only [Spc.put_, Spc.chosen, Spc.goTo, List.length_append, List.length_cons, List.length_nil]; omega
   ·split
    ·simp only [Spc.goTo, List.length_append, List.length_cons, List.length_nil]; omega
    ·simp only [Spc.put_, Spc.goTo, List.length_append, List.length_cons, List.length_nil]; omega
 ·have : (Q1a S.pl.regs i).length ≤ 1 := by unfold Q1a; split <;> simp
  simp only [List.length_append]
  omega
structure SOk (p : Q00) (S : Spc) : Prop where
 mid : SMid p S.steps S
 seen : S.seen.length + bN S.ahead ≤ 4 * S.steps + 1
theorem Q7d {p : Q00} {ws script : List Int} (hl : ws.length = Q0y p) (h64 : Q0s ws) : SOk p (Q0p ws script) :=
 ⟨⟨⟨by simp [Q0p], Q6t (fun x hx => by simp only [Q0p, List.mem_replicate] at hx; rw [hx.2]; exact Q3q), hl, h64, by simp [Q0p, hl], fun l hl => by
   simp only [Q0p, List.mem_replicate] at hl
   rw [hl.2]
   exact ⟨Nat.zero_le _, fun j => by simp [R64]⟩, by simp [Q0p]⟩, fun e => by simp [Q0p] at e, by simp [Q0p], by simp [Q0p], fun e => by simp [Q0p] at e⟩, by simp [Q0p, bN]⟩
theorem SOk.up {p : Q00} {S : Spc} (h : SOk p S) (ha : S.ahead = true) : SOk p S.returns :=
 ⟨h.mid.returns ha, by
  have := h.seen
  rw [ha] at this
  simp only [Spc.returns, List.length_append, List.length_cons, List.length_nil, bN, if_true] at this ⊢
  simp
  omega⟩
def begS (S : Spc) : Spc := { S with steps := S.steps + 1, seen := S.seen ++ [⟨1, S.pl.at_, 0⟩] }
def Q1g (S : Spc) : Spc := { S with since := S.since + 1 }
theorem Q78 (p : Q00) (i : LIns) (S : Spc) : Q0o p i S = if (doS p i (begS S)).ahead then (if Q1k i S || decide ((Q1g (doS p i (begS S))).since = 12) then (Q1g (doS p i (begS S))).returns else Q1g (doS p i (begS S))) else doS p i (begS S) := rfl
theorem SOk.mid2 {p : Q00} {S : Spc} {i : LIns} (h : SOk p S) (hlt : S.pl.at_ < p.code.length) (hok : Q03 p 10 i = true) (hi : i.fits) : SMid p (S.steps + 1) (doS p i (begS S)) := Qbu (h.mid.steps _ _) hlt hok hi
theorem SOk.step {p : Q00} {S : Spc} {i : LIns} (h : SOk p S) (hlt : S.pl.at_ < p.code.length) (hok : Q03 p 10 i = true) (hi : i.fits) : SOk p (Q0o p i S) := by
 have h1 := h.mid2 hlt hok hi
 have h2 := Q7h p i (begS S)
 have h3 := Q8v p i (begS S)
 have h4 := h.seen
 have h5 : (begS S).seen.length = S.seen.length + 1 := by simp [begS]
 have h6 : (begS S).ahead = S.ahead := rfl
 have h7 : (begS S).steps = S.steps + 1 := rfl
 rw [h5, h6] at h2
 rw [h7] at h3
 rw [Q78]
 generalize doS p i (begS S) = T at *
 split
 ·rename_i ha
  rw [ha] at h2
  have h8 : bN true = 1 := rfl
  rw [h8] at h2
  have hm : ∀ (hs : T.since + 1 ≤ 11), SMid p (S.steps + 1) (Q1g T) := fun hs => ⟨h1.pl, h1.back, by have := h1.s0; simp only [Q1g]; omega, by simp only [Q1g]; omega, fun _ => hs⟩
  split
  ·have hr : SMid p (S.steps + 1) (Q1g T).returns := ⟨h1.back ha, fun e => by simp [Spc.returns] at e, by have := h1.s0; simp only [Q1g, Spc.returns]; omega, by have := h1.s2 ha; simp only [Q1g, Spc.returns]; omega, fun e => by simp [Spc.returns] at e⟩
   refine ⟨?_, ?_⟩
   ·show SMid p T.steps _
    rw [h3]; exact hr
   ·show (T.seen ++ [_]).length + bN false ≤ 4 * T.steps + 1
    rw [h3, List.length_append]
    simp only [List.length_cons, List.length_nil, bN]
    simp
    omega
  ·rename_i hne
   simp only [Bool.or_eq_true, decide_eq_true_eq, not_or] at hne
   have hs := h1.s2 ha
   have hs2 : T.since + 1 ≠ 12 := hne.2
   refine ⟨?_, ?_⟩
   ·show SMid p T.steps _
    rw [h3]; exact hm (by omega)
   ·show T.seen.length + bN T.ahead ≤ 4 * T.steps + 1
    rw [h3, ha, h8]
    omega
 ·exact ⟨by rw [h3]; exact h1, by rw [h3]; omega⟩
theorem Qaj {p : Q00} {S : Spc} {k : Nat} (hf : S.fin ≠ 0) : runS p k S = S := by
 cases k with
 | zero => rfl
 | succ k => rw [runS, if_pos hf]
theorem Qai {p : Q00} {S : Spc} {k : Nat} (hk : 0 < k) (hf : S.fin = 0) (ha : S.ahead = true) (hat : p.code.length ≤ S.pl.at_) : runS p k S = runS p k S.returns := by
 obtain ⟨j, rfl⟩ : ∃ j, k = j + 1 := ⟨k - 1, by omega⟩
 have e1 : upS p S = S.returns := by unfold upS; rw [if_pos ⟨ha, hat⟩]
 have e2 : upS p S.returns = S.returns := by unfold upS; rw [if_neg (by simp [Spc.returns])]
 have hf2 : S.returns.fin = 0 := hf
 rw [runS, runS, if_neg (by omega), if_neg (by omega), e1, e2]
theorem Qal {p : Q00} {S : Spc} {k : Nat} (hk : 0 < k) (hf : S.fin = 0) (ha : S.ahead = false) (hat : p.code.length ≤ S.pl.at_) : runS p k S = { S with fin := 2 } := by
 obtain ⟨j, rfl⟩ : ∃ j, k = j + 1 := ⟨k - 1, by omega⟩
 have e1 : upS p S = S := by unfold upS; rw [if_neg (by simp [ha])]
 have e2 : p.code[S.pl.at_]? = none := List.getElem?_eq_none hat
 rw [runS, if_neg (by omega), e1, e2]
theorem Qam {p : Q00} {S : Spc} {k : Nat} {i : LIns} (hk : 0 < k) (hf : S.fin = 0) (hi : p.code[S.pl.at_]? = some i) : runS p k S = runS p (k - 1) (Q0o p i S) := by
 obtain ⟨j, rfl⟩ : ∃ j, k = j + 1 := ⟨k - 1, by omega⟩
 have hlt := (List.getElem?_eq_some_iff.1 hi).1
 have e1 : upS p S = S := by unfold upS; rw [if_neg (by omega)]
 rw [runS, if_neg (by omega), e1, hi]
 rfl
end Go.Proofs.Ytceocimckkgaoaa
