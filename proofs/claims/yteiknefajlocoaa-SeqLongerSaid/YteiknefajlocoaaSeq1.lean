/- The program's running machine in memory: what each of its writes does to it. -/
import Derived.Test.YteiknefajlocoaaRef3c
namespace Go.Proofs.Yteiknefajlocoaa
open Go.ChangeShapes Go.WideShapes Go.ChangeAt Go.RowKit
set_option linter.unusedVariables false
set_option linter.unusedSimpArgs false

/-- of what was there only blocks of S may have turned -/
structure Turn (S : Nat → Prop) (w w' : World) : Prop where
  os : w'.os = w.os
  tape : w'.tape = w.tape
  output : w'.output = w.output
  size : w.heap.size ≤ w'.heap.size
  block : ∀ j, j < w.heap.size → ¬ S j → w'.heap[j]? = w.heap[j]?
section
variable {S S' : Nat → Prop} {w w' w'' : World}
theorem Turn.ofExt (h : Ext w w') : Turn S w w' := ⟨h.os, h.tape, h.output, h.size, fun j hj _ => Below.block h j hj⟩
theorem Turn.refl (w : World) : Turn S w w := Turn.ofExt (Ext.refl w)
theorem Turn.trans (h : Turn S w w') (k : Turn S' w' w'') (hs : ∀ j, j < w.heap.size → S' j → S j) : Turn S w w'' :=
  ⟨k.os.trans h.os, k.tape.trans h.tape, k.output.trans h.output, Nat.le_trans h.size k.size, fun j hj hn => (k.block j (Nat.lt_of_lt_of_le hj h.size) (fun e => hn (hs j hj e))).trans (h.block j hj hn)⟩
theorem Turn.ext (h : Turn S w w') (k : Ext w' w'') : Turn S w w'' := h.trans (Turn.ofExt (S := S) k) (fun _ _ e => e)
theorem Turn.grown {row : Option Nat} (h : w.grownBy w' row) : Turn (fun j => row = some j) w w' := ⟨h.os, h.tape, h.output, h.size, fun j hj hn => h.block j hj (fun e => hn e.symm)⟩
theorem Turn.set (w : World) (p : Addr) (u : Value) : Turn (fun j => j = p.block) w (w.setCell p u) := ⟨rfl, rfl, rfl, by simp [World.setCell], fun j hj hn => Below.heap_setCell w p u j hn⟩
theorem Turn.mono (h : Turn S w w') (hs : ∀ j, S j → S' j) : Turn S' w w' := ⟨h.os, h.tape, h.output, h.size, fun j hj hn => h.block j hj (fun e => hn (hs j e))⟩
theorem Turn.below {B : Nat} (h : Turn S w w') (hB : B ≤ w.heap.size) (hs : ∀ j, S j → B ≤ j) : Below B w w' :=
  ⟨h.os, h.tape, h.output, h.size, fun j hj => h.block j (Nat.lt_of_lt_of_le hj hB) (fun e => by have := hs j e; omega)⟩
theorem Blk.turn {g : Nat} {t : TypeId} {cs : Array Value} (h : Blk w g t cs) (ht : Turn S w w') (hn : ¬ S g) : Blk w' g t cs := (ht.block g h.lt hn).trans h
theorem own_turn {base : Nat} {e : TypeId} {size n : Nat} {v : Value} {xs : List Value} (h : w.ownsRow base e size v n xs) (ht : Turn S w w') (hn : ∀ k, v.ownBlock = some k → ¬ S k) : w'.ownsRow base e size v n xs := by
  refine ⟨h.1, ?_⟩
  rcases h.2 with h | ⟨g, cap, cur, rfl, h1, h2, h3⟩
  · exact .inl h
  · exact .inr ⟨g, cap, cur, rfl, h1, (ht.block g (Array.getElem?_eq_some_iff.1 h2).1 (hn g rfl)).trans h2, h3⟩
end

/-- the cells of a machine -/
def machL (vR vC : Value) (fin value : Int) (steps : Nat) (vS vM : Value) (regs : List Int) (vW : Value) (at_ : Nat) (vB : Value) : List Value :=
  [vR, vC, .int .i64 fin, .int .i64 value, .int .i64 steps, vS, vM] ++ (regs.map (Value.int .i64) ++ [vW, .int .i64 at_, vB])
section
variable {vR vC vS vM vW vB u : Value} {fin value x : Int} {steps at_ : Nat} {regs : List Int}
theorem mach_size (h : regs.length = 10) : (machL vR vC fin value steps vS vM regs vW at_ vB).toArray.size = 20 := by simp [machL, h]
theorem mach_reg (h : regs.length = 10) {a : Int} (ha : a.toNat < 10) : (machL vR vC fin value steps vS vM regs vW at_ vB).toArray[7 + a.toNat]? = some (.int .i64 (rg regs a)) := by
  have h2 : a.toNat < regs.length := by omega
  rw [List.getElem?_toArray]
  unfold machL
  rw [List.getElem?_append_right (by simp), List.getElem?_append_left (by simp; omega)]
  simp [rg, h2]
theorem mach_set_reg (h : regs.length = 10) {a : Int} (ha : a.toNat < 10) : (machL vR vC fin value steps vS vM regs vW at_ vB).toArray.setIfInBounds (7 + a.toNat) (.int .i64 x) = (machL vR vC fin value steps vS vM (rset regs a x) vW at_ vB).toArray := by
  have h2 : a.toNat < (regs.map (Value.int .i64)).length := by simp; omega
  rw [List.setIfInBounds_toArray]
  unfold machL rset
  rw [List.set_append_right _ _ (by simp), List.set_append_left _ _ (by simp; omega), List.map_set]
  simp
theorem mach_set_fin : (machL vR vC fin value steps vS vM regs vW at_ vB).toArray.setIfInBounds 2 (.int .i64 x) = (machL vR vC x value steps vS vM regs vW at_ vB).toArray := by simp [machL]
theorem mach_set_value : (machL vR vC fin value steps vS vM regs vW at_ vB).toArray.setIfInBounds 3 (.int .i64 x) = (machL vR vC fin x steps vS vM regs vW at_ vB).toArray := by simp [machL]
theorem mach_set_steps {k : Nat} : (machL vR vC fin value steps vS vM regs vW at_ vB).toArray.setIfInBounds 4 (.int .i64 (k : Int)) = (machL vR vC fin value k vS vM regs vW at_ vB).toArray := by simp [machL]
theorem mach_set_seen : (machL vR vC fin value steps vS vM regs vW at_ vB).toArray.setIfInBounds 5 u = (machL vR vC fin value steps u vM regs vW at_ vB).toArray := by simp [machL]
theorem mach_set_mem : (machL vR vC fin value steps vS vM regs vW at_ vB).toArray.setIfInBounds 6 u = (machL vR vC fin value steps vS u regs vW at_ vB).toArray := by simp [machL]
theorem mach_set_words (h : regs.length = 10) : (machL vR vC fin value steps vS vM regs vW at_ vB).toArray.setIfInBounds 17 u = (machL vR vC fin value steps vS vM regs u at_ vB).toArray := by simp [machL, List.set_append, h]
theorem mach_set_at (h : regs.length = 10) {k : Nat} : (machL vR vC fin value steps vS vM regs vW at_ vB).toArray.setIfInBounds 18 (.int .i64 (k : Int)) = (machL vR vC fin value steps vS vM regs vW k vB).toArray := by simp [machL, List.set_append, h]
theorem mach_set_bases (h : regs.length = 10) : (machL vR vC fin value steps vS vM regs vW at_ vB).toArray.setIfInBounds 19 u = (machL vR vC fin value steps vS vM regs vW at_ u).toArray := by simp [machL, List.set_append, h]
end

/-- a machine at block g: its rows are of the call's own, from block B on -/
structure MSt (w : World) (B g : Nat) (vR vC vM vB vS vW : Value) (bases : List Int) (M : Mach) : Prop where
  box : Blk w g 110 (machL vR vC M.fin M.value M.steps vS vM M.regs vW M.at_ vB).toArray
  sn : w.ownsRow B 98 3 vS M.seen.length (M.seen.flatMap seeCells)
  ws : w.ownsRow B 2 1 vW M.words.length (M.words.map (Value.int .i64))
  bs : w.ownsRow B 3 1 vB bases.length (bases.map (Value.int .i64))
  len : M.regs.length = 10
  hg : B ≤ g
section
variable {w w' : World} {B g : Nat} {vR vC vM vB vS vW : Value} {bases : List Int} {M : Mach}
theorem MSt.size (h : MSt w B g vR vC vM vB vS vW bases M) : B ≤ w.heap.size := by have := h.box.lt; have := h.hg; omega
theorem MSt.ext (h : MSt w B g vR vC vM vB vS vW bases M) (hx : Ext w w') : MSt w' B g vR vC vM vB vS vW bases M :=
  ⟨h.box.ext hx, own_ext h.sn hx, own_ext h.ws hx, own_ext h.bs hx, h.len, h.hg⟩
theorem MSt.gs (h : MSt w B g vR vC vM vB vS vW bases M) : some g ≠ vS.ownBlock := own_ne h.sn h.box (by decide)
theorem MSt.gw (h : MSt w B g vR vC vM vB vS vW bases M) : some g ≠ vW.ownBlock := own_ne h.ws h.box (by decide)
theorem MSt.gb (h : MSt w B g vR vC vM vB vS vW bases M) : some g ≠ vB.ownBlock := own_ne h.bs h.box (by decide)
/-- cells of its box put: what they hold now -/
theorem MSt.put (h : MSt w B g vR vC vM vB vS vW bases M) (i : Nat) (u : Value) {M' : Mach} (h1 : M'.seen = M.seen) (h2 : M'.words = M.words) (h3 : M'.regs.length = 10)
    (hc : (machL vR vC M.fin M.value M.steps vS vM M.regs vW M.at_ vB).toArray.setIfInBounds i u = (machL vR vC M'.fin M'.value M'.steps vS vM M'.regs vW M'.at_ vB).toArray) :
    MSt (w.setCell ⟨g, i, none⟩ u) B g vR vC vM vB vS vW bases M' :=
  ⟨by rw [← hc]; exact h.box.set_ i u, by rw [h1]; exact own_far h.sn h.gs u, by rw [h2]; exact own_far h.ws h.gw u, own_far h.bs h.gb u, h3, h.hg⟩
theorem MSt.fin_ (h : MSt w B g vR vC vM vB vS vW bases M) (x : Int) : MSt (w.setCell ⟨g, 2, none⟩ (.int .i64 x)) B g vR vC vM vB vS vW bases { M with fin := x } := h.put 2 _ rfl rfl h.len mach_set_fin
theorem MSt.value_ (h : MSt w B g vR vC vM vB vS vW bases M) (x : Int) : MSt (w.setCell ⟨g, 3, none⟩ (.int .i64 x)) B g vR vC vM vB vS vW bases { M with value := x } := h.put 3 _ rfl rfl h.len mach_set_value
theorem MSt.steps_ (h : MSt w B g vR vC vM vB vS vW bases M) (k : Nat) : MSt (w.setCell ⟨g, 4, none⟩ (.int .i64 (k : Int))) B g vR vC vM vB vS vW bases { M with steps := k } := h.put 4 _ rfl rfl h.len mach_set_steps
theorem MSt.at__ (h : MSt w B g vR vC vM vB vS vW bases M) (k : Nat) : MSt (w.setCell ⟨g, 18, none⟩ (.int .i64 (k : Int))) B g vR vC vM vB vS vW bases { M with at_ := k } := h.put 18 _ rfl rfl h.len (mach_set_at h.len)
theorem MSt.reg_ (h : MSt w B g vR vC vM vB vS vW bases M) {a : Int} (ha : okIn 10 a = true) (x : Int) : MSt (w.setCell ⟨g, 7 + a.toNat, none⟩ (.int .i64 x)) B g vR vC vM vB vS vW bases { M with regs := rset M.regs a x } := by
  obtain ⟨h0, h1⟩ := okIn_iff.1 ha
  exact h.put _ _ rfl rfl (by rw [rset_len]; exact h.len) (mach_set_reg h.len (by omega))
/-- something shown: behind the append, and its store -/
theorem MSt.show_ (h : MSt w B g vR vC vM vB vS vW bases M) {vS' : Value} {s : List LSee} (hg : w.grownBy w' vS.ownBlock) (ho : w'.ownsRow B 98 3 vS' s.length (s.flatMap seeCells)) :
    MSt (w'.setCell ⟨g, 5, none⟩ vS') B g vR vC vM vB vS' vW bases { M with seen := s } := by
  have hb := h.box.grown hg h.gs
  have hne : some g ≠ vS'.ownBlock := own_ne ho hb (by decide)
  have hw := own_grown h.ws hg (fun k hk he => own_ne2 h.sn h.ws (by decide) k hk he)
  have hbs := own_grown h.bs hg (fun k hk he => own_ne2 h.sn h.bs (by decide) k hk he)
  exact ⟨by rw [← mach_set_seen (u := vS')]; exact hb.set_ 5 vS', own_far ho hne _, own_far hw h.gw _, own_far hbs h.gb _, h.len, h.hg⟩
/-- a word put -/
theorem MSt.word (h : MSt w B g vR vC vM vB vS vW bases M) {x k cap : Nat} (hv : vW = .slice (some ⟨k, 0, none⟩) M.words.length cap) (z : Int) :
    MSt (w.setCell ⟨k, x, none⟩ (.int .i64 z)) B g vR vC vM vB vS vW bases { M with words := M.words.set x z } := by
  subst hv
  have hws := h.ws
  have hkg := h.gw
  have hset := set_grown w ⟨k, x, none⟩ (.int .i64 z)
  refine ⟨h.box.far (p := ⟨k, x, none⟩) (by intro e; exact hkg (by simp [Value.ownBlock, e])) _, own_grown h.sn hset (fun j e he => own_ne2 h.sn h.ws (by decide) j he (by simpa [Value.ownBlock] using e)), ?_,
    own_grown h.bs hset (fun j e he => own_ne2 h.bs h.ws (by decide) j he (by simpa [Value.ownBlock] using e)), h.len, h.hg⟩
  have := (hws.stored x (.int .i64 z)).1
  simp only [List.length_set]
  rw [List.map_set]
  exact this
theorem MSt.cells (h : MSt w B g vR vC vM vB vS vW bases M) :
    (w.cell? ⟨g, 0, none⟩ = some vR ∧ w.frozen? ⟨g, 0, none⟩ = false) ∧ (w.cell? ⟨g, 1, none⟩ = some vC ∧ w.frozen? ⟨g, 1, none⟩ = false) ∧ (w.cell? ⟨g, 2, none⟩ = some (.int .i64 M.fin) ∧ w.frozen? ⟨g, 2, none⟩ = false) ∧
    (w.cell? ⟨g, 3, none⟩ = some (.int .i64 M.value) ∧ w.frozen? ⟨g, 3, none⟩ = false) ∧ (w.cell? ⟨g, 4, none⟩ = some (.int .i64 M.steps) ∧ w.frozen? ⟨g, 4, none⟩ = false) ∧ (w.cell? ⟨g, 5, none⟩ = some vS ∧ w.frozen? ⟨g, 5, none⟩ = false) ∧
    (w.cell? ⟨g, 6, none⟩ = some vM ∧ w.frozen? ⟨g, 6, none⟩ = false) ∧ (w.cell? ⟨g, 17, none⟩ = some vW ∧ w.frozen? ⟨g, 17, none⟩ = false) ∧ (w.cell? ⟨g, 18, none⟩ = some (.int .i64 M.at_) ∧ w.frozen? ⟨g, 18, none⟩ = false) ∧
    (w.cell? ⟨g, 19, none⟩ = some vB ∧ w.frozen? ⟨g, 19, none⟩ = false) := by
  have hl := h.len
  refine ⟨⟨?_, h.box.frozen _⟩, ⟨?_, h.box.frozen _⟩, ⟨?_, h.box.frozen _⟩, ⟨?_, h.box.frozen _⟩, ⟨?_, h.box.frozen _⟩, ⟨?_, h.box.frozen _⟩, ⟨?_, h.box.frozen _⟩, ⟨?_, h.box.frozen _⟩, ⟨?_, h.box.frozen _⟩, ⟨?_, h.box.frozen _⟩⟩ <;>
    (rw [h.box.cell]; simp [machL, List.getElem?_append, hl])
theorem MSt.reg (h : MSt w B g vR vC vM vB vS vW bases M) {a : Int} (ha : okIn 10 a = true) : w.cell? ⟨g, 7 + a.toNat, none⟩ = some (.int .i64 (rg M.regs a)) ∧ w.frozen? ⟨g, 7 + a.toNat, none⟩ = false := by
  obtain ⟨h0, h1⟩ := okIn_iff.1 ha
  exact ⟨by rw [h.box.cell]; exact mach_reg h.len (by omega), h.box.frozen _⟩
/-- behind a call that may show something -/
def SPost (w w' : World) (B g : Nat) (vR vC vM vB vS vW : Value) (bases : List Int) (M' : Mach) : Prop :=
  ∃ vS', MSt w' B g vR vC vM vB vS' vW bases M' ∧ Turn (fun j => j = g ∨ vS.ownBlock = some j) w w' ∧ (∀ j, vS'.ownBlock = some j → vS.ownBlock = some j ∨ w.heap.size ≤ j)
theorem SPost.keep {w1 : World} {M' : Mach} (h : MSt w' B g vR vC vM vB vS vW bases M') (ht : Turn (fun j => j = g ∨ vS.ownBlock = some j) w w') : SPost w w' B g vR vC vM vB vS vW bases M' := ⟨vS, h, ht, fun _ e => .inl e⟩
end
end Go.Proofs.Yteiknefajlocoaa
