/- Laid together from: Seq1, Ck1, Ref6a, Known, KOf, R5. -/
import Derived.Test.YteiknefajlocoaaCheckTellsB15
import Derived.Test.YteiknefajlocoaaCheckTellsB11
import Derived.Test.YteiknefajlocoaaCheckTellsB3
import Derived.Test.YteiknefajlocoaaCheckTellsB9
import Derived.Test.YteiknefajlocoaaCheckTellsB8
import Derived.Test.YteiknefajlocoaaCheckTellsB12
import Derived.Test.YteiknefajlocoaaCheckTellsB7
import Derived.Test.YteiknefajlocoaaCheckTellsB2
import Derived.Deep.RegionWith
import Derived.Deep.DeepCutAuto
import Derived.Test.YteiknefajlocoaaCheckTellsB5

/- The program's running machine in memory: what each of its writes does to it. -/
namespace Go.Proofs.Yteiknefajlocoaa
open Go.ChangeShapes Go.WideShapes Go.ChangeAt Go.RowKit
set_option linter.unusedVariables false
set_option linter.unusedSimpArgs false

/-- of what was there only blocks of S may have turned -/
structure Turn (S : Nat → Prop) (w w' : World) : Prop where
  os : w'.os = w.os
  tape : w'.tape = w.tape
  output : w'.output = w.output
  size : w.heap.size ≤ w'.heap.size
  block : ∀ j, j < w.heap.size → ¬ S j → w'.heap[j]? = w.heap[j]?
section
variable {S S' : Nat → Prop} {w w' w'' : World}
theorem Turn.ofExt (h : Ext w w') : Turn S w w' := ⟨h.os, h.tape, h.output, h.size, fun j hj _ => Below.block h j hj⟩
theorem Turn.refl (w : World) : Turn S w w := Turn.ofExt (Ext.refl w)
theorem Turn.trans (h : Turn S w w') (k : Turn S' w' w'') (hs : ∀ j, j < w.heap.size → S' j → S j) : Turn S w w'' :=
  ⟨k.os.trans h.os, k.tape.trans h.tape, k.output.trans h.output, Nat.le_trans h.size k.size, fun j hj hn => (k.block j (Nat.lt_of_lt_of_le hj h.size) (fun e => hn (hs j hj e))).trans (h.block j hj hn)⟩
theorem Turn.ext (h : Turn S w w') (k : Ext w' w'') : Turn S w w'' := h.trans (Turn.ofExt (S := S) k) (fun _ _ e => e)
theorem Turn.grown {row : Option Nat} (h : w.grownBy w' row) : Turn (fun j => row = some j) w w' := ⟨h.os, h.tape, h.output, h.size, fun j hj hn => h.block j hj (fun e => hn e.symm)⟩
theorem Turn.set (w : World) (p : Addr) (u : Value) : Turn (fun j => j = p.block) w (w.setCell p u) := ⟨rfl, rfl, rfl, by simp [World.setCell], fun j hj hn => Below.heap_setCell w p u j hn⟩
theorem Turn.mono (h : Turn S w w') (hs : ∀ j, S j → S' j) : Turn S' w w' := ⟨h.os, h.tape, h.output, h.size, fun j hj hn => h.block j hj (fun e => hn (hs j e))⟩
theorem Turn.below {B : Nat} (h : Turn S w w') (hB : B ≤ w.heap.size) (hs : ∀ j, S j → B ≤ j) : Below B w w' :=
  ⟨h.os, h.tape, h.output, h.size, fun j hj => h.block j (Nat.lt_of_lt_of_le hj hB) (fun e => by have := hs j e; omega)⟩
theorem Blk.turn {g : Nat} {t : TypeId} {cs : Array Value} (h : Blk w g t cs) (ht : Turn S w w') (hn : ¬ S g) : Blk w' g t cs := (ht.block g h.lt hn).trans h
theorem own_turn {base : Nat} {e : TypeId} {size n : Nat} {v : Value} {xs : List Value} (h : w.ownsRow base e size v n xs) (ht : Turn S w w') (hn : ∀ k, v.ownBlock = some k → ¬ S k) : w'.ownsRow base e size v n xs := by
  refine ⟨h.1, ?_⟩
  rcases h.2 with h | ⟨g, cap, cur, rfl, h1, h2, h3⟩
  · exact .inl h
  · exact .inr ⟨g, cap, cur, rfl, h1, (ht.block g (Array.getElem?_eq_some_iff.1 h2).1 (hn g rfl)).trans h2, h3⟩
end

/-- the cells of a machine -/
def machL (vR vC : Value) (fin value : Int) (steps : Nat) (vS vM : Value) (regs : List Int) (vW : Value) (at_ : Nat) (vB : Value) : List Value :=
  [vR, vC, .int .i64 fin, .int .i64 value, .int .i64 steps, vS, vM] ++ (regs.map (Value.int .i64) ++ [vW, .int .i64 at_, vB])
section
variable {vR vC vS vM vW vB u : Value} {fin value x : Int} {steps at_ : Nat} {regs : List Int}
theorem mach_size (h : regs.length = 10) : (machL vR vC fin value steps vS vM regs vW at_ vB).toArray.size = 20 := by simp [machL, h]
theorem mach_reg (h : regs.length = 10) {a : Int} (ha : a.toNat < 10) : (machL vR vC fin value steps vS vM regs vW at_ vB).toArray[7 + a.toNat]? = some (.int .i64 (rg regs a)) := by
  have h2 : a.toNat < regs.length := by omega
  rw [List.getElem?_toArray]
  unfold machL
  rw [List.getElem?_append_right (by simp), List.getElem?_append_left (by simp; omega)]
  simp [rg, h2]
theorem mach_set_reg (h : regs.length = 10) {a : Int} (ha : a.toNat < 10) : (machL vR vC fin value steps vS vM regs vW at_ vB).toArray.setIfInBounds (7 + a.toNat) (.int .i64 x) = (machL vR vC fin value steps vS vM (rset regs a x) vW at_ vB).toArray := by
  have h2 : a.toNat < (regs.map (Value.int .i64)).length := by simp; omega
  rw [List.setIfInBounds_toArray]
  unfold machL rset
  rw [List.set_append_right _ _ (by simp), List.set_append_left _ _ (by simp; omega), List.map_set]
  simp
theorem mach_set_fin : (machL vR vC fin value steps vS vM regs vW at_ vB).toArray.setIfInBounds 2 (.int .i64 x) = (machL vR vC x value steps vS vM regs vW at_ vB).toArray := by simp [machL]
theorem mach_set_value : (machL vR vC fin value steps vS vM regs vW at_ vB).toArray.setIfInBounds 3 (.int .i64 x) = (machL vR vC fin x steps vS vM regs vW at_ vB).toArray := by simp [machL]
theorem mach_set_steps {k : Nat} : (machL vR vC fin value steps vS vM regs vW at_ vB).toArray.setIfInBounds 4 (.int .i64 (k : Int)) = (machL vR vC fin value k vS vM regs vW at_ vB).toArray := by simp [machL]
theorem mach_set_seen : (machL vR vC fin value steps vS vM regs vW at_ vB).toArray.setIfInBounds 5 u = (machL vR vC fin value steps u vM regs vW at_ vB).toArray := by simp [machL]
theorem mach_set_mem : (machL vR vC fin value steps vS vM regs vW at_ vB).toArray.setIfInBounds 6 u = (machL vR vC fin value steps vS u regs vW at_ vB).toArray := by simp [machL]
theorem mach_set_words (h : regs.length = 10) : (machL vR vC fin value steps vS vM regs vW at_ vB).toArray.setIfInBounds 17 u = (machL vR vC fin value steps vS vM regs u at_ vB).toArray := by simp [machL, List.set_append, h]
theorem mach_set_at (h : regs.length = 10) {k : Nat} : (machL vR vC fin value steps vS vM regs vW at_ vB).toArray.setIfInBounds 18 (.int .i64 (k : Int)) = (machL vR vC fin value steps vS vM regs vW k vB).toArray := by simp [machL, List.set_append, h]
theorem mach_set_bases (h : regs.length = 10) : (machL vR vC fin value steps vS vM regs vW at_ vB).toArray.setIfInBounds 19 u = (machL vR vC fin value steps vS vM regs vW at_ u).toArray := by simp [machL, List.set_append, h]
end

/-- a machine at block g: its rows are of the call's own, from block B on -/
structure MSt (w : World) (B g : Nat) (vR vC vM vB vS vW : Value) (bases : List Int) (M : Mach) : Prop where
  box : Blk w g 110 (machL vR vC M.fin M.value M.steps vS vM M.regs vW M.at_ vB).toArray
  sn : w.ownsRow B 98 3 vS M.seen.length (M.seen.flatMap seeCells)
  ws : w.ownsRow B 2 1 vW M.words.length (M.words.map (Value.int .i64))
  bs : w.ownsRow B 3 1 vB bases.length (bases.map (Value.int .i64))
  len : M.regs.length = 10
  hg : B ≤ g
section
variable {w w' : World} {B g : Nat} {vR vC vM vB vS vW : Value} {bases : List Int} {M : Mach}
theorem MSt.size (h : MSt w B g vR vC vM vB vS vW bases M) : B ≤ w.heap.size := by have := h.box.lt; have := h.hg; omega
theorem MSt.ext (h : MSt w B g vR vC vM vB vS vW bases M) (hx : Ext w w') : MSt w' B g vR vC vM vB vS vW bases M :=
  ⟨h.box.ext hx, own_ext h.sn hx, own_ext h.ws hx, own_ext h.bs hx, h.len, h.hg⟩
theorem MSt.gs (h : MSt w B g vR vC vM vB vS vW bases M) : some g ≠ vS.ownBlock := own_ne h.sn h.box (by decide)
theorem MSt.gw (h : MSt w B g vR vC vM vB vS vW bases M) : some g ≠ vW.ownBlock := own_ne h.ws h.box (by decide)
theorem MSt.gb (h : MSt w B g vR vC vM vB vS vW bases M) : some g ≠ vB.ownBlock := own_ne h.bs h.box (by decide)
/-- cells of its box put: what they hold now -/
theorem MSt.put (h : MSt w B g vR vC vM vB vS vW bases M) (i : Nat) (u : Value) {M' : Mach} (h1 : M'.seen = M.seen) (h2 : M'.words = M.words) (h3 : M'.regs.length = 10)
    (hc : (machL vR vC M.fin M.value M.steps vS vM M.regs vW M.at_ vB).toArray.setIfInBounds i u = (machL vR vC M'.fin M'.value M'.steps vS vM M'.regs vW M'.at_ vB).toArray) :
    MSt (w.setCell ⟨g, i, none⟩ u) B g vR vC vM vB vS vW bases M' :=
  ⟨by rw [← hc]; exact h.box.set_ i u, by rw [h1]; exact own_far h.sn h.gs u, by rw [h2]; exact own_far h.ws h.gw u, own_far h.bs h.gb u, h3, h.hg⟩
theorem MSt.fin_ (h : MSt w B g vR vC vM vB vS vW bases M) (x : Int) : MSt (w.setCell ⟨g, 2, none⟩ (.int .i64 x)) B g vR vC vM vB vS vW bases { M with fin := x } := h.put 2 _ rfl rfl h.len mach_set_fin
theorem MSt.value_ (h : MSt w B g vR vC vM vB vS vW bases M) (x : Int) : MSt (w.setCell ⟨g, 3, none⟩ (.int .i64 x)) B g vR vC vM vB vS vW bases { M with value := x } := h.put 3 _ rfl rfl h.len mach_set_value
theorem MSt.steps_ (h : MSt w B g vR vC vM vB vS vW bases M) (k : Nat) : MSt (w.setCell ⟨g, 4, none⟩ (.int .i64 (k : Int))) B g vR vC vM vB vS vW bases { M with steps := k } := h.put 4 _ rfl rfl h.len mach_set_steps
theorem MSt.at__ (h : MSt w B g vR vC vM vB vS vW bases M) (k : Nat) : MSt (w.setCell ⟨g, 18, none⟩ (.int .i64 (k : Int))) B g vR vC vM vB vS vW bases { M with at_ := k } := h.put 18 _ rfl rfl h.len (mach_set_at h.len)
theorem MSt.reg_ (h : MSt w B g vR vC vM vB vS vW bases M) {a : Int} (ha : okIn 10 a = true) (x : Int) : MSt (w.setCell ⟨g, 7 + a.toNat, none⟩ (.int .i64 x)) B g vR vC vM vB vS vW bases { M with regs := rset M.regs a x } := by
  obtain ⟨h0, h1⟩ := okIn_iff.1 ha
  exact h.put _ _ rfl rfl (by rw [rset_len]; exact h.len) (mach_set_reg h.len (by omega))
/-- something shown: behind the append, and its store -/
theorem MSt.show_ (h : MSt w B g vR vC vM vB vS vW bases M) {vS' : Value} {s : List LSee} (hg : w.grownBy w' vS.ownBlock) (ho : w'.ownsRow B 98 3 vS' s.length (s.flatMap seeCells)) :
    MSt (w'.setCell ⟨g, 5, none⟩ vS') B g vR vC vM vB vS' vW bases { M with seen := s } := by
  have hb := h.box.grown hg h.gs
  have hne : some g ≠ vS'.ownBlock := own_ne ho hb (by decide)
  have hw := own_grown h.ws hg (fun k hk he => own_ne2 h.sn h.ws (by decide) k hk he)
  have hbs := own_grown h.bs hg (fun k hk he => own_ne2 h.sn h.bs (by decide) k hk he)
  exact ⟨by rw [← mach_set_seen (u := vS')]; exact hb.set_ 5 vS', own_far ho hne _, own_far hw h.gw _, own_far hbs h.gb _, h.len, h.hg⟩
/-- a word put -/
theorem MSt.word (h : MSt w B g vR vC vM vB vS vW bases M) {x k cap : Nat} (hv : vW = .slice (some ⟨k, 0, none⟩) M.words.length cap) (z : Int) :
    MSt (w.setCell ⟨k, x, none⟩ (.int .i64 z)) B g vR vC vM vB vS vW bases { M with words := M.words.set x z } := by
  subst hv
  have hws := h.ws
  have hkg := h.gw
  have hset := set_grown w ⟨k, x, none⟩ (.int .i64 z)
  refine ⟨h.box.far (p := ⟨k, x, none⟩) (by intro e; exact hkg (by simp [Value.ownBlock, e])) _, own_grown h.sn hset (fun j e he => own_ne2 h.sn h.ws (by decide) j he (by simpa [Value.ownBlock] using e)), ?_,
    own_grown h.bs hset (fun j e he => own_ne2 h.bs h.ws (by decide) j he (by simpa [Value.ownBlock] using e)), h.len, h.hg⟩
  have := (hws.stored x (.int .i64 z)).1
  simp only [List.length_set]
  rw [List.map_set]
  exact this
theorem MSt.cells (h : MSt w B g vR vC vM vB vS vW bases M) :
    (w.cell? ⟨g, 0, none⟩ = some vR ∧ w.frozen? ⟨g, 0, none⟩ = false) ∧ (w.cell? ⟨g, 1, none⟩ = some vC ∧ w.frozen? ⟨g, 1, none⟩ = false) ∧ (w.cell? ⟨g, 2, none⟩ = some (.int .i64 M.fin) ∧ w.frozen? ⟨g, 2, none⟩ = false) ∧
    (w.cell? ⟨g, 3, none⟩ = some (.int .i64 M.value) ∧ w.frozen? ⟨g, 3, none⟩ = false) ∧ (w.cell? ⟨g, 4, none⟩ = some (.int .i64 M.steps) ∧ w.frozen? ⟨g, 4, none⟩ = false) ∧ (w.cell? ⟨g, 5, none⟩ = some vS ∧ w.frozen? ⟨g, 5, none⟩ = false) ∧
    (w.cell? ⟨g, 6, none⟩ = some vM ∧ w.frozen? ⟨g, 6, none⟩ = false) ∧ (w.cell? ⟨g, 17, none⟩ = some vW ∧ w.frozen? ⟨g, 17, none⟩ = false) ∧ (w.cell? ⟨g, 18, none⟩ = some (.int .i64 M.at_) ∧ w.frozen? ⟨g, 18, none⟩ = false) ∧
    (w.cell? ⟨g, 19, none⟩ = some vB ∧ w.frozen? ⟨g, 19, none⟩ = false) := by
  have hl := h.len
  refine ⟨⟨?_, h.box.frozen _⟩, ⟨?_, h.box.frozen _⟩, ⟨?_, h.box.frozen _⟩, ⟨?_, h.box.frozen _⟩, ⟨?_, h.box.frozen _⟩, ⟨?_, h.box.frozen _⟩, ⟨?_, h.box.frozen _⟩, ⟨?_, h.box.frozen _⟩, ⟨?_, h.box.frozen _⟩, ⟨?_, h.box.frozen _⟩⟩ <;>
    (rw [h.box.cell]; simp [machL, List.getElem?_append, hl])
theorem MSt.reg (h : MSt w B g vR vC vM vB vS vW bases M) {a : Int} (ha : okIn 10 a = true) : w.cell? ⟨g, 7 + a.toNat, none⟩ = some (.int .i64 (rg M.regs a)) ∧ w.frozen? ⟨g, 7 + a.toNat, none⟩ = false := by
  obtain ⟨h0, h1⟩ := okIn_iff.1 ha
  exact ⟨by rw [h.box.cell]; exact mach_reg h.len (by omega), h.box.frozen _⟩
/-- behind a call that may show something -/
def SPost (w w' : World) (B g : Nat) (vR vC vM vB vS vW : Value) (bases : List Int) (M' : Mach) : Prop :=
  ∃ vS', MSt w' B g vR vC vM vB vS' vW bases M' ∧ Turn (fun j => j = g ∨ vS.ownBlock = some j) w w' ∧ (∀ j, vS'.ownBlock = some j → vS.ownBlock = some j ∨ w.heap.size ≤ j)
theorem SPost.keep {w1 : World} {M' : Mach} (h : MSt w' B g vR vC vM vB vS vW bases M') (ht : Turn (fun j => j = g ∨ vS.ownBlock = some j) w w') : SPost w w' B g vR vC vM vB vS vW bases M' := ⟨vS, h, ht, fun _ e => .inl e⟩
end
end Go.Proofs.Yteiknefajlocoaa
/- What is known, state by state, in memory: the program's checker. -/
namespace Go.Proofs.Yteiknefajlocoaa
open Go.ChangeShapes Go.WideShapes Go.ChangeAt Go.RowKit
set_option linter.unusedVariables false
set_option linter.unusedSimpArgs false

def knCells (k : LKn) : List Value := [.int .i64 k.bits, .bool k.sec]
def knV (k : LKn) : Value := .agg #[.int .i64 k.bits, .bool k.sec]
def stV (s : KSt) : Array Value := (s.flatMap knCells).toArray
theorem kn_size (s : KSt) : (s.flatMap knCells).length = s.length * 2 := by
  induction s with
  | nil => rfl
  | cons k s ih => rw [List.flatMap_cons, List.length_append, ih, List.length_cons]; simp [knCells]; omega
theorem stV_size {s : KSt} (h : s.length = 8) : (stV s).size = 16 := by
  unfold stV
  rw [List.size_toArray, kn_size, h]
theorem kn_get : ∀ (s : KSt) (a : Nat), a < s.length → (s.flatMap knCells)[a * 2]? = some (.int .i64 (s.getD a default).bits) ∧ (s.flatMap knCells)[a * 2 + 1]? = some (.bool (s.getD a default).sec)
  | [], a, h => by simp at h
  | k :: s, 0, h => by simp [knCells]
  | k :: s, a + 1, h => by
    have := kn_get s a (by simpa using h)
    rw [List.flatMap_cons, show (a + 1) * 2 = a * 2 + 2 by omega, show a * 2 + 2 + 1 = a * 2 + 1 + 2 by omega]
    simp only [knCells, List.cons_append, List.nil_append, List.getElem?_cons_succ, List.getD_cons_succ]
    exact this
theorem stV_get {s : KSt} (h : s.length = 8) {a : Int} (ha : a.toNat < 8) : (stV s)[a.toNat * 2]? = some (.int .i64 (kg s a).bits) ∧ (stV s)[a.toNat * 2 + 1]? = some (.bool (kg s a).sec) := by
  have := kn_get s a.toNat (by omega)
  unfold stV kg
  simpa using this
theorem kn_set : ∀ (s : KSt) (a : Nat) (k : LKn), a < s.length → ((s.flatMap knCells).set (a * 2) (.int .i64 k.bits)).set (a * 2 + 1) (.bool k.sec) = (s.set a k).flatMap knCells
  | [], a, k, h => by simp at h
  | x :: s, 0, k, h => by simp [knCells]
  | x :: s, a + 1, k, h => by
    have := kn_set s a k (by simpa using h)
    rw [List.flatMap_cons, show (a + 1) * 2 = a * 2 + 2 by omega, show a * 2 + 2 + 1 = a * 2 + 1 + 2 by omega, List.set_cons_succ, List.flatMap_cons]
    simp only [knCells, List.cons_append, List.nil_append, List.set_cons_succ]
    rw [this]
theorem stV_set {s : KSt} (h : s.length = 8) {a : Int} (ha : a.toNat < 8) (k : LKn) : ((stV s).setIfInBounds (a.toNat * 2) (.int .i64 k.bits)).setIfInBounds (a.toNat * 2 + 1) (.bool k.sec) = stV (kset s a k) := by
  have := kn_set s a.toNat k (by omega)
  unfold stV kset
  rw [← this]
  simp
theorem stV_one (s : KSt) : (stV s).all (·.oneCell') = true := by
  unfold stV
  rw [Array.all_eq_true']
  intro u hu
  simp only [List.mem_toArray, List.mem_flatMap, knCells, List.mem_cons, List.not_mem_nil, or_false] at hu
  obtain ⟨k, -, rfl | rfl⟩ := hu <;> rfl
theorem stV_inj : ∀ {s t : KSt}, s.length = t.length → stV s = stV t → s = t := by
  intro s t hl h
  apply List.ext_getElem hl
  intro j h1 h2
  have e : s.flatMap knCells = t.flatMap knCells := by unfold stV at h; simpa using h
  obtain ⟨a1, a2⟩ := kn_get s j h1
  obtain ⟨b1, b2⟩ := kn_get t j h2
  rw [e, b1] at a1
  rw [e, b2] at a2
  simp only [Option.some.injEq, Value.int.injEq, true_and, Value.bool.injEq] at a1 a2
  have e1 : s.getD j default = s[j] := by simp [h1]
  have e2 : t.getD j default = t[j] := by simp [h2]
  rw [e1, e2] at a1
  rw [e1, e2] at a2
  cases hs : s[j]
  cases ht : t[j]
  rw [hs, ht] at a1 a2
  simp only at a1 a2
  rw [a1, a2]
section
variable {w w' : World} {k : Nat} {s : KSt}
/-- a register's cells -/
theorem st_cell (h : Blk w k 80 (stV s)) (hl : s.length = 8) {a : Int} (ha : okIn 8 a = true) :
    (w.cell? ⟨k, a.toNat * 2, none⟩ = some (.int .i64 (kg s a).bits) ∧ w.frozen? ⟨k, a.toNat * 2, none⟩ = false) ∧ (w.cell? ⟨k, a.toNat * 2 + 1, none⟩ = some (.bool (kg s a).sec) ∧ w.frozen? ⟨k, a.toNat * 2 + 1, none⟩ = false) := by
  obtain ⟨h0, h1⟩ := okIn_iff.1 ha
  obtain ⟨g1, g2⟩ := stV_get hl (a := a) (by omega)
  exact ⟨⟨by rw [h.cell, g1], h.frozen _⟩, ⟨by rw [h.cell, g2], h.frozen _⟩⟩
/-- a register put -/
theorem st_put (h : Blk w k 80 (stV s)) (hl : s.length = 8) {a : Int} (ha : okIn 8 a = true) (x : LKn) :
    Blk ((w.setCell ⟨k, a.toNat * 2, none⟩ (.int .i64 x.bits)).setCell ⟨k, a.toNat * 2 + 1, none⟩ (.bool x.sec)) k 80 (stV (kset s a x)) := by
  obtain ⟨h0, h1⟩ := okIn_iff.1 ha
  rw [← stV_set hl (by omega) x]
  exact (h.set_ _ _).set_ _ _
end

/-- the table of states: row R of n pointers at block ks; its states in blocks of the call's own, from block B on -/
def RowAt (w : World) (B ks n : Nat) (T : Tab) : Prop :=
  ∃ R : Array Value, Blk w ks 81 R ∧ R.size = n ∧ ∀ j, j < n → match tg T j with
    | none => R[j]? = some (.pointer none)
    | some s => ∃ k, R[j]? = some (.pointer (some ⟨k, 0, none⟩)) ∧ B ≤ k ∧ Blk w k 80 (stV s)
theorem RowAt.ext {w w' : World} {B ks n : Nat} {T : Tab} (h : RowAt w B ks n T) (hx : Ext w w') : RowAt w' B ks n T := by
  obtain ⟨R, h1, h2, h3⟩ := h
  refine ⟨R, h1.ext hx, h2, fun j hj => ?_⟩
  have := h3 j hj
  cases ht : tg T j with
  | none => rw [ht] at this; exact this
  | some s =>
    rw [ht] at this
    obtain ⟨k, e1, e2, e3⟩ := this
    exact ⟨k, e1, e2, e3.ext hx⟩
/-- a state put: its block is one of the call's own -/
theorem RowAt.put {w : World} {B ks n k at_ : Nat} {T : Tab} {s : KSt} (h : RowAt w B ks n T) (hT : T.length = n) (hat : at_ < n) (hB : B ≤ k) (hk : Blk w k 80 (stV s)) :
    RowAt (w.setCell ⟨ks, at_, none⟩ (.pointer (some ⟨k, 0, none⟩))) B ks n (T.set at_ (some s)) := by
  obtain ⟨R, h1, h2, h3⟩ := h
  refine ⟨_, h1.set_ at_ _, by simpa using h2, fun j hj => ?_⟩
  have far : ∀ {k' : Nat} {u : KSt}, Blk w k' 80 (stV u) → Blk (w.setCell ⟨ks, at_, none⟩ (.pointer (some ⟨k, 0, none⟩))) k' 80 (stV u) := fun hb => hb.far (p := ⟨ks, at_, none⟩) (Blk.ne_ hb h1 (by decide)) _
  rw [tg_set]
  by_cases e : at_ = j
  · subst e
    rw [if_pos ⟨rfl, by omega⟩]
    exact ⟨k, by simp [h2, hat], hB, far hk⟩
  · rw [if_neg (by omega)]
    have := h3 j hj
    cases ht : tg T j with
    | none => rw [ht] at this; simpa [Array.getElem?_setIfInBounds, e] using this
    | some u =>
      rw [ht] at this
      obtain ⟨k', e1, e2, e3⟩ := this
      exact ⟨k', by simpa [Array.getElem?_setIfInBounds, e] using e1, e2, far e3⟩
theorem RowAt.far {w : World} {B ks n : Nat} {T : Tab} (h : RowAt w B ks n T) {p : Addr} {t : TypeId} {cs : Array Value} (hp : Blk w p.block t cs) (h1 : t ≠ 81) (h2 : t ≠ 80) (u : Value) : RowAt (w.setCell p u) B ks n T := by
  obtain ⟨R, e1, e2, e3⟩ := h
  refine ⟨R, e1.far (Blk.ne_ e1 hp (fun e => h1 e.symm)) u, e2, fun j hj => ?_⟩
  have := e3 j hj
  cases ht : tg T j with
  | none => rw [ht] at this; exact this
  | some s =>
    rw [ht] at this
    obtain ⟨k, f1, f2, f3⟩ := this
    exact ⟨k, f1, f2, f3.far (Blk.ne_ f3 hp (fun e => h2 e.symm)) u⟩
theorem RowAt.grown {w w' : World} {B ks n m : Nat} {T : Tab} {D : Nat} {v : Value} {xs : List Value} (h : RowAt w B ks n T) (hu : w.ownsRow D 3 1 v m xs) (hg : w.grownBy w' v.ownBlock) : RowAt w' B ks n T := by
  obtain ⟨R, e1, e2, e3⟩ := h
  refine ⟨R, e1.grown hg (own_ne hu e1 (by decide)), e2, fun j hj => ?_⟩
  have := e3 j hj
  cases ht : tg T j with
  | none => rw [ht] at this; exact this
  | some s =>
    rw [ht] at this
    obtain ⟨k, f1, f2, f3⟩ := this
    exact ⟨k, f1, f2, f3.grown hg (own_ne hu f3 (by decide))⟩

/-- the checker at block g, its table at block ks -/
structure CSt (w : World) (B g ks : Nat) (vR vC vK : Value) (p : LProg) (T : Tab) (wk : List Int) : Prop where
  box : Blk w g 75 #[vR, vC, .slice (some ⟨ks, 0, none⟩) p.code.length p.code.length, vK]
  row : RowAt w B ks p.code.length T
  wk : w.ownsRow B 3 1 vK wk.length (wk.map (Value.int .i64))
  tok : Tok p T
  hg : B ≤ g
  hk : B ≤ ks
section
variable {w w' : World} {B g ks : Nat} {vR vC vK : Value} {p : LProg} {T : Tab} {wk : List Int}
theorem CSt.ext (h : CSt w B g ks vR vC vK p T wk) (hx : Ext w w') : CSt w' B g ks vR vC vK p T wk := ⟨h.box.ext hx, h.row.ext hx, own_ext h.wk hx, h.tok, h.hg, h.hk⟩
theorem CSt.size (h : CSt w B g ks vR vC vK p T wk) : B ≤ w.heap.size := by have := h.box.lt; have := h.hg; omega
theorem CSt.cells (h : CSt w B g ks vR vC vK p T wk) : (w.cell? ⟨g, 0, none⟩ = some vR ∧ w.frozen? ⟨g, 0, none⟩ = false) ∧ (w.cell? ⟨g, 1, none⟩ = some vC ∧ w.frozen? ⟨g, 1, none⟩ = false) ∧
    (w.cell? ⟨g, 2, none⟩ = some (.slice (some ⟨ks, 0, none⟩) p.code.length p.code.length) ∧ w.frozen? ⟨g, 2, none⟩ = false) ∧ (w.cell? ⟨g, 3, none⟩ = some vK ∧ w.frozen? ⟨g, 3, none⟩ = false) := by
  refine ⟨⟨?_, h.box.frozen _⟩, ⟨?_, h.box.frozen _⟩, ⟨?_, h.box.frozen _⟩, ⟨?_, h.box.frozen _⟩⟩ <;> (rw [h.box.cell]; rfl)
/-- a state led to: put -/
theorem CSt.put (h : CSt w B g ks vR vC vK p T wk) {k at_ : Nat} {s : KSt} (hat : at_ < p.code.length) (hB : B ≤ k) (hk : Blk w k 80 (stV s)) (hs : Sok s) :
    CSt (w.setCell ⟨ks, at_, none⟩ (.pointer (some ⟨k, 0, none⟩))) B g ks vR vC vK p (T.set at_ (some s)) wk := by
  obtain ⟨R, r1, r2, r3⟩ := h.row
  refine ⟨h.box.far (p := ⟨ks, at_, none⟩) (Blk.ne_ h.box r1 (by decide)) _, h.row.put h.tok.len hat hB hk, own_far h.wk (own_ne h.wk r1 (by decide)) _, ⟨by simpa using h.tok.len, fun j u hu => ?_⟩, h.hg, h.hk⟩
  rw [tg_set] at hu
  split at hu
  · simp only [Option.some.injEq] at hu; subst hu; exact hs
  · exact h.tok.ok j u hu
/-- work more, or less: behind the append, and its store -/
theorem CSt.work (h : CSt w B g ks vR vC vK p T wk) {vK' : Value} {wk' : List Int} (hg : w.grownBy w' vK.ownBlock) (ho : w'.ownsRow B 3 1 vK' wk'.length (wk'.map (Value.int .i64))) :
    CSt (w'.setCell ⟨g, 3, none⟩ vK') B g ks vR vC vK' p T wk' := by
  have hb := h.box.grown hg (own_ne h.wk h.box (by decide))
  have hne : some g ≠ vK'.ownBlock := own_ne ho hb (by decide)
  exact ⟨hb.set_ 3 vK', (h.row.grown h.wk hg).far (p := ⟨g, 3, none⟩) hb (by decide) (by decide) _, own_far ho hne _, h.tok, h.hg, h.hk⟩
theorem CSt.row_at (h : CSt w B g ks vR vC vK p T wk) {j : Nat} (hj : j < p.code.length) : (tg T j = none → w.cell? ⟨ks, j, none⟩ = some (.pointer none) ∧ w.frozen? ⟨ks, j, none⟩ = false) ∧
    (∀ s, tg T j = some s → ∃ k, (w.cell? ⟨ks, j, none⟩ = some (.pointer (some ⟨k, 0, none⟩)) ∧ w.frozen? ⟨ks, j, none⟩ = false) ∧ B ≤ k ∧ Blk w k 80 (stV s)) := by
  obtain ⟨R, r1, r2, r3⟩ := h.row
  have := r3 j hj
  refine ⟨fun ht => ?_, fun s ht => ?_⟩
  · rw [ht] at this
    exact ⟨by rw [r1.cell, this], r1.frozen _⟩
  · rw [ht] at this
    obtain ⟨k, e1, e2, e3⟩ := this
    exact ⟨k, ⟨by rw [r1.cell, e1], r1.frozen _⟩, e2, e3⟩
end
/-- what a lead makes of the table, and of the work -/
def leadT (p : LProg) (T : Tab) (at_ : Nat) (s : KSt) : Tab := if p.code.length ≤ at_ then T else joinT T (at_, s)
def leadW (p : LProg) (T : Tab) (wk : List Int) (at_ : Nat) (s : KSt) : List Int :=
  if p.code.length ≤ at_ then wk else match tg T at_ with
    | none => wk ++ [(at_ : Int)]
    | some t => if sjoin s t = t then wk else wk ++ [(at_ : Int)]
end Go.Proofs.Yteiknefajlocoaa
/- States, leads and tables of the reference (chapter 6) in memory. -/
namespace Go.Proofs.Yteiknefajlocoaa
open Go.ChangeShapes Go.WideShapes Go.ChangeAt Go.RowKit
set_option linter.unusedVariables false
set_option linter.unusedSimpArgs false

/-- eight registers' states in a slice of a block of their own, from block B on -/
def KnAt (w : World) (B : Nat) (v : Value) (s : KSt) : Prop :=
  s.length = 8 ∧ ∃ b cap R, v = .slice (some ⟨b, 0, none⟩) 8 cap ∧ 8 ≤ cap ∧ cap ≤ maxLen ∧ B ≤ b ∧ Blk w b 78 R ∧ ∀ j, j < 16 → R[j]? = (stV s)[j]?
theorem KnAt.ext {w w' : World} {B : Nat} {v : Value} {s : KSt} (h : KnAt w B v s) (hx : Ext w w') : KnAt w' B v s := by
  obtain ⟨h0, b, cap, R, h1, h2, h3, h4, h5, h6⟩ := h
  exact ⟨h0, b, cap, R, h1, h2, h3, h4, h5.ext hx, h6⟩
theorem KnAt.mono {w : World} {B B' : Nat} {v : Value} {s : KSt} (h : KnAt w B v s) (hB : B' ≤ B) : KnAt w B' v s := by
  obtain ⟨h0, b, cap, R, h1, h2, h3, h4, h5, h6⟩ := h
  exact ⟨h0, b, cap, R, h1, h2, h3, by omega, h5, h6⟩
theorem KnAt.own {w : World} {B : Nat} {v : Value} {s : KSt} (hl : s.length = 8) (h : w.ownsRow B 78 2 v 8 (s.flatMap knCells)) : KnAt w B v s := by
  refine ⟨hl, ?_⟩
  obtain ⟨h0, ⟨-, h1⟩ | ⟨g, cap, cur, rfl, h1, h2, h3, h4, h5, h6⟩⟩ := h
  · omega
  · refine ⟨g, cap, cur, rfl, h3, h4, h1, h2, fun j hj => ?_⟩
    unfold stV
    rw [← h6]
    simp only [List.getElem?_toArray]
    rw [List.getElem?_take_of_lt (by omega)]
    simp
theorem KnAt.form {w : World} {B : Nat} {v : Value} {s : KSt} (h : KnAt w B v s) : ∃ b cap, v = .slice (some ⟨b, 0, none⟩) 8 cap ∧ 8 ≤ cap ∧ cap ≤ maxLen ∧ B ≤ b := by
  obtain ⟨h0, b, cap, R, h1, h2, h3, h4, h5, h6⟩ := h
  exact ⟨b, cap, h1, h2, h3, h4⟩
section
variable {w : World} {B b cap : Nat} {s : KSt}
/-- a register's cells -/
theorem KnAt.cell (h : KnAt w B (.slice (some ⟨b, 0, none⟩) 8 cap) s) {a : Int} (ha : okIn 8 a = true) :
    (w.cell? ⟨b, a.toNat * 2, none⟩ = some (.int .i64 (kg s a).bits) ∧ w.frozen? ⟨b, a.toNat * 2, none⟩ = false) ∧ (w.cell? ⟨b, a.toNat * 2 + 1, none⟩ = some (.bool (kg s a).sec) ∧ w.frozen? ⟨b, a.toNat * 2 + 1, none⟩ = false) := by
  obtain ⟨h0, b', cap', R, h1, h2, h3, h4, h5, h6⟩ := h
  simp only [Value.slice.injEq, Option.some.injEq, Addr.mk.injEq, and_true, true_and] at h1
  obtain ⟨rfl, rfl⟩ := h1
  obtain ⟨k0, k1⟩ := okIn_iff.1 ha
  obtain ⟨g1, g2⟩ := stV_get h0 (a := a) (by omega)
  exact ⟨⟨by rw [h5.cell, h6 _ (by omega), g1], h5.frozen _⟩, ⟨by rw [h5.cell, h6 _ (by omega), g2], h5.frozen _⟩⟩
/-- a register put -/
theorem KnAt.put (h : KnAt w B (.slice (some ⟨b, 0, none⟩) 8 cap) s) {a : Int} (ha : okIn 8 a = true) (x : LKn) :
    KnAt ((w.setCell ⟨b, a.toNat * 2, none⟩ (.int .i64 x.bits)).setCell ⟨b, a.toNat * 2 + 1, none⟩ (.bool x.sec)) B (.slice (some ⟨b, 0, none⟩) 8 cap) (kset s a x) := by
  obtain ⟨h0, b', cap', R, h1, h2, h3, h4, h5, h6⟩ := h
  simp only [Value.slice.injEq, Option.some.injEq, Addr.mk.injEq, and_true, true_and] at h1
  obtain ⟨rfl, rfl⟩ := h1
  obtain ⟨k0, k1⟩ := okIn_iff.1 ha
  have hs := stV_size h0
  have hR : 16 ≤ R.size := by
    have := h6 15 (by omega)
    rcases Nat.lt_or_ge 15 R.size with h | h
    · omega
    · rw [Array.getElem?_eq_none h, Array.getElem?_eq_getElem (by omega)] at this
      cases this
  refine ⟨by simpa [kset] using h0, b, cap, _, rfl, h2, h3, h4, (h5.set_ _ _).set_ _ _, fun j hj => ?_⟩
  rw [← stV_set h0 (by omega) x]
  rw [Array.getElem?_setIfInBounds, Array.getElem?_setIfInBounds, Array.getElem?_setIfInBounds, Array.getElem?_setIfInBounds]
  simp only [Array.size_setIfInBounds]
  repeat' split
  all_goals first | rfl | omega | exact h6 j hj
theorem KnAt.far {v : Value} (h : KnAt w B v s) {p : Addr} {t : TypeId} {cs : Array Value} (hp : Blk w p.block t cs) (h1 : t ≠ 78) (u : Value) : KnAt (w.setCell p u) B v s := by
  obtain ⟨h0, b', cap', R, e1, h2, h3, h4, h5, h6⟩ := h
  exact ⟨h0, b', cap', R, e1, h2, h3, h4, h5.far (Blk.ne_ h5 hp (fun e => h1 e.symm)) u, h6⟩
end
theorem index_kn (b cap : Nat) (W : World) (i : Int) (h0 : 0 ≤ i) (h1 : i < 8) :
    (Instr.indexAt 85 (.slice (some ⟨b, 0, none⟩) 8 cap) (.int .i64 i)).run Try.prog W = .ok (.pointer (some ⟨b, i.toNat * 2, none⟩)) W := by
  have hs : (Try.prog.info? 78).map (·.size) = some 2 := by kernel_rfl
  simp [Instr.indexAt, run_underlying Try.underlying85, asIntOf, h0, h1]
  have := addr_add b 0 (i.toNat * 2)
  simpa using this

/-- a list of leads, in blocks from block B on -/
def LeadsAt (w : World) (B : Nat) (v : Value) (l : List (Nat × KSt)) : Prop :=
  ∃ oa cap b, v = .slice oa l.length cap ∧ l.length ≤ cap ∧ cap ≤ maxLen ∧ B ≤ b ∧ (0 < l.length → oa = some ⟨b, 0, none⟩) ∧ ∃ vs : Nat → Value, ∀ k, k < l.length →
    w.cell? ⟨b, k * 3, none⟩ = some (.int .i64 ((l.getD k default).1 : Int)) ∧ w.cell? ⟨b, k * 3 + 1, none⟩ = some (.bool true) ∧ w.cell? ⟨b, k * 3 + 2, none⟩ = some (vs k) ∧ KnAt w B (vs k) (l.getD k default).2
theorem LeadsAt.ext {w w' : World} {B : Nat} {v : Value} {l : List (Nat × KSt)} (h : LeadsAt w B v l) (hx : Ext w w') : LeadsAt w' B v l := by
  obtain ⟨oa, cap, b, h1, h2, h3, hB, h4, vs, h5⟩ := h
  refine ⟨oa, cap, b, h1, h2, h3, hB, h4, vs, fun k hk => ?_⟩
  obtain ⟨e1, e2, e3, e4⟩ := h5 k hk
  exact ⟨hx.kept e1, hx.kept e2, hx.kept e3, e4.ext hx⟩
theorem KnAt.low {w : World} {B : Nat} {v : Value} {s : KSt} (h : KnAt w B v s) {p : Addr} (hp : p.block < B) (u : Value) : KnAt (w.setCell p u) B v s := by
  obtain ⟨h0, b', cap', R, e1, h2, h3, h4, h5, h6⟩ := h
  exact ⟨h0, b', cap', R, e1, h2, h3, h4, h5.far (by omega) u, h6⟩
theorem LeadsAt.low {w : World} {B : Nat} {v : Value} {l : List (Nat × KSt)} (h : LeadsAt w B v l) {p : Addr} (hp : p.block < B) (u : Value) : LeadsAt (w.setCell p u) B v l := by
  obtain ⟨oa, cap, b, h1, h2, h3, hB, h4, vs, h5⟩ := h
  refine ⟨oa, cap, b, h1, h2, h3, hB, h4, vs, fun k hk => ?_⟩
  obtain ⟨e1, e2, e3, e4⟩ := h5 k hk
  have hne : ∀ o : Nat, p ≠ ⟨b, o, none⟩ := fun o e => by rw [e] at hp; simp only at hp; omega
  exact ⟨by rw [World.cell?_setCell_other _ _ _ _ (hne _)]; exact e1, by rw [World.cell?_setCell_other _ _ _ _ (hne _)]; exact e2, by rw [World.cell?_setCell_other _ _ _ _ (hne _)]; exact e3, e4.low hp u⟩
/-- a state that has come, or none, as a value -/
def StAt (w : World) (v : Value) (o : Option KSt) : Prop :=
  match o with
  | none => v = .agg #[.bool false, .slice none 0 0]
  | some s => ∃ x, v = .agg #[.bool true, x] ∧ KnAt w 0 x s
theorem StAt.ext {w w' : World} {v : Value} {o : Option KSt} (h : StAt w v o) (hx : Ext w w') : StAt w' v o := by
  cases o with
  | none => exact h
  | some s =>
    obtain ⟨x, h1, h2⟩ := h
    exact ⟨x, h1, h2.ext hx⟩
/-- the table of states at block ks -/
def TabAt (w : World) (ks n : Nat) (T : Tab) : Prop :=
  ∃ R : Array Value, Blk w ks 87 R ∧ R.size = n * 2 ∧ ∀ j, j < n → match tg T j with
    | none => R[j * 2]? = some (.bool false) ∧ R[j * 2 + 1]? = some (.slice none 0 0)
    | some s => R[j * 2]? = some (.bool true) ∧ ∃ v, R[j * 2 + 1]? = some v ∧ KnAt w 0 v s
theorem TabAt.ext {w w' : World} {ks n : Nat} {T : Tab} (h : TabAt w ks n T) (hx : Ext w w') : TabAt w' ks n T := by
  obtain ⟨R, h1, h2, h3⟩ := h
  refine ⟨R, h1.ext hx, h2, fun j hj => ?_⟩
  have := h3 j hj
  cases ht : tg T j with
  | none => rw [ht] at this; exact this
  | some s =>
    rw [ht] at this
    obtain ⟨e1, v, e2, e3⟩ := this
    exact ⟨e1, v, e2, e3.ext hx⟩
theorem TabAt.put {w : World} {ks n at_ : Nat} {T : Tab} {s : KSt} {v : Value} (h : TabAt w ks n T) (hT : T.length = n) (hat : at_ < n) (hk : KnAt w 0 v s) :
    TabAt ((w.setCell ⟨ks, at_ * 2, none⟩ (.bool true)).setCell ⟨ks, at_ * 2 + 1, none⟩ v) ks n (T.set at_ (some s)) := by
  obtain ⟨R, h1, h2, h3⟩ := h
  have far : ∀ {v' : Value} {u : KSt}, KnAt w 0 v' u → KnAt ((w.setCell ⟨ks, at_ * 2, none⟩ (.bool true)).setCell ⟨ks, at_ * 2 + 1, none⟩ v) 0 v' u := fun hb =>
    (hb.far (p := ⟨ks, at_ * 2, none⟩) h1 (by decide) _).far (p := ⟨ks, at_ * 2 + 1, none⟩) (h1.set_ _ _) (by decide) _
  refine ⟨_, (h1.set_ _ _).set_ _ _, by simpa using h2, fun j hj => ?_⟩
  rw [tg_set]
  by_cases e : at_ = j
  · subst e
    rw [if_pos ⟨rfl, by omega⟩]
    refine ⟨?_, v, ?_, far hk⟩
    · rw [Array.getElem?_setIfInBounds_ne (by omega), Array.getElem?_setIfInBounds_self_of_lt (by omega)]
    · rw [Array.getElem?_setIfInBounds_self_of_lt (by simp; omega)]
  · rw [if_neg (by omega)]
    have := h3 j hj
    cases ht : tg T j with
    | none =>
      rw [ht] at this
      rw [Array.getElem?_setIfInBounds_ne (by omega), Array.getElem?_setIfInBounds_ne (by omega), Array.getElem?_setIfInBounds_ne (by omega), Array.getElem?_setIfInBounds_ne (by omega)]
      exact this
    | some u =>
      rw [ht] at this
      obtain ⟨e1, v', e2, e3⟩ := this
      refine ⟨?_, v', ?_, far e3⟩
      · rw [Array.getElem?_setIfInBounds_ne (by omega), Array.getElem?_setIfInBounds_ne (by omega)]; exact e1
      · rw [Array.getElem?_setIfInBounds_ne (by omega), Array.getElem?_setIfInBounds_ne (by omega)]; exact e2
end Go.Proofs.Yteiknefajlocoaa
/- Package known: walks. -/
namespace Go.Proofs.Yteiknefajlocoaa
open Go.ChangeShapes Go.WideShapes Go.ChangeAt Go.RowKit

theorem infoKnown : (Try.prog.info? 78).map (·.size) = some 2 := by kernel_rfl
theorem ret_k {a b : Int} {s t : Bool} (h1 : a = b) (h2 : s = t) : Ending.returned (.agg #[.int .i64 a, .bool s]) = .returned (.agg #[.int .i64 b, .bool t]) := by rw [h1, h2]

set_option maxHeartbeats 1000000 in
theorem norm_c (b : Int) (s : Bool) (w : World) :
    Calls Try.prog 123 #[.agg #[.int .i64 b, .bool s]] w fun e w' => e = .returned (.agg #[.int .i64 (nrm b), .bool s]) ∧ Ext w w' := by
  by_cases h : b < 0 ∨ 17 < b
  · have hn : nrm b = 17 := by unfold nrm; rw [if_pos h]
    have Hn := Lib.hid hn
    clear hn
    by_cases h0 : b < 0
    · go_enter Try.func123, Try.ntmps123
      go_wp2
      exact bodyPost_ret (v := .agg #[.int .i64 17, .bool s]) (by simp [results, Try.results123, go_sem]) rfl ⟨ret_k Hn.out.symm rfl, ((Ext.refl _).alloc _).alloc _⟩
    · have h1 : 17 < b := by omega
      clear h
      go_enter Try.func123, Try.ntmps123
      go_wp2
      exact bodyPost_ret (v := .agg #[.int .i64 17, .bool s]) (by simp [results, Try.results123, go_sem]) rfl ⟨ret_k Hn.out.symm rfl, ((Ext.refl _).alloc _).alloc _⟩
  · have hn : nrm b = b := by unfold nrm; rw [if_neg h]
    have Hn := Lib.hid hn
    have h0 : 0 ≤ b := by omega
    have h1 : b ≤ 17 := by omega
    clear hn h
    go_enter Try.func123, Try.ntmps123
    go_wp2
    exact bodyPost_ret (v := .agg #[.int .i64 b, .bool s]) (by simp [results, Try.results123, go_sem]) rfl ⟨ret_k Hn.out.symm rfl, ((Ext.refl _).alloc _).alloc _⟩

/-- three new blocks of two cells: what there is to know of them -/
theorem three_new (w : World) (T : TypeId) (a0 a1 b0 b1 c0 c1 : Value) : ∃ W g, w.heap.size = g ∧ ((w.alloc (.cells #[a0, a1] T)).alloc (.cells #[b0, b1] T)).alloc (.cells #[c0, c1] T) = W ∧ Ext w W ∧
    (W.cell? ⟨g, 0, none⟩ = some a0 ∧ W.frozen? ⟨g, 0, none⟩ = false) ∧ (W.cell? ⟨g, 1, none⟩ = some a1 ∧ W.frozen? ⟨g, 1, none⟩ = false) ∧
    (W.cell? ⟨g + 1, 0, none⟩ = some b0 ∧ W.frozen? ⟨g + 1, 0, none⟩ = false) ∧ (W.cell? ⟨g + 1, 1, none⟩ = some b1 ∧ W.frozen? ⟨g + 1, 1, none⟩ = false) ∧
    (W.cell? ⟨g + 1 + 1, 0, none⟩ = some c0 ∧ W.frozen? ⟨g + 1 + 1, 0, none⟩ = false) ∧ (W.cell? ⟨g + 1 + 1, 1, none⟩ = some c1 ∧ W.frozen? ⟨g + 1 + 1, 1, none⟩ = false) ∧ Blk W (g + 1 + 1) T #[c0, c1] := by
  refine ⟨_, _, rfl, rfl, (((Ext.refl _).alloc _).alloc _).alloc _, ?_⟩
  have h0 := ((Blk.new w T #[a0, a1]).alloc (.cells #[b0, b1] T)).alloc (.cells #[c0, c1] T)
  have h1 := (Blk.new (w.alloc (.cells #[a0, a1] T)) T #[b0, b1]).alloc (.cells #[c0, c1] T)
  have h2 := Blk.new ((w.alloc (.cells #[a0, a1] T)).alloc (.cells #[b0, b1] T)) T #[c0, c1]
  simp only [World.size_alloc] at h1 h2
  exact ⟨⟨by rw [h0.cell]; rfl, h0.frozen 0⟩, ⟨by rw [h0.cell]; rfl, h0.frozen 1⟩, ⟨by rw [h1.cell]; rfl, h1.frozen 0⟩, ⟨by rw [h1.cell]; rfl, h1.frozen 1⟩, ⟨by rw [h2.cell]; rfl, h2.frozen 0⟩, ⟨by rw [h2.cell]; rfl, h2.frozen 1⟩, h2⟩

/-- what stands behind 'a, b = norm(a), norm(b)' -/
def Normed (w wx : World) (g : Nat) (b c : Int) (s t : Bool) : Prop :=
  Ext w wx ∧ (wx.cell? ⟨g, 0, none⟩ = some (.int .i64 (nrm b)) ∧ wx.frozen? ⟨g, 0, none⟩ = false) ∧ (wx.cell? ⟨g, 1, none⟩ = some (.bool s) ∧ wx.frozen? ⟨g, 1, none⟩ = false) ∧
    (wx.cell? ⟨g + 1, 0, none⟩ = some (.int .i64 (nrm c)) ∧ wx.frozen? ⟨g + 1, 0, none⟩ = false) ∧ (wx.cell? ⟨g + 1, 1, none⟩ = some (.bool t) ∧ wx.frozen? ⟨g + 1, 1, none⟩ = false) ∧
    (wx.cell? ⟨g + 1 + 1, 0, none⟩ = some (.int .i64 0) ∧ wx.frozen? ⟨g + 1 + 1, 0, none⟩ = false) ∧ (wx.cell? ⟨g + 1 + 1, 1, none⟩ = some (.bool false) ∧ wx.frozen? ⟨g + 1 + 1, 1, none⟩ = false)
theorem normed {w w1 : World} {g : Nat} {b c x y : Int} {s s' t t' : Bool} (hg : w.heap.size ≤ g) (hE : Ext w w1) (p0 : w1.cell? ⟨g, 0, none⟩ = some (.int .i64 x) ∧ w1.frozen? ⟨g, 0, none⟩ = false) (p1 : w1.cell? ⟨g, 1, none⟩ = some (.bool s') ∧ w1.frozen? ⟨g, 1, none⟩ = false)
    (p2 : w1.cell? ⟨g + 1, 0, none⟩ = some (.int .i64 y) ∧ w1.frozen? ⟨g + 1, 0, none⟩ = false) (p3 : w1.cell? ⟨g + 1, 1, none⟩ = some (.bool t') ∧ w1.frozen? ⟨g + 1, 1, none⟩ = false)
    (p4 : w1.cell? ⟨g + 1 + 1, 0, none⟩ = some (.int .i64 0) ∧ w1.frozen? ⟨g + 1 + 1, 0, none⟩ = false) (p5 : w1.cell? ⟨g + 1 + 1, 1, none⟩ = some (.bool false) ∧ w1.frozen? ⟨g + 1 + 1, 1, none⟩ = false) :
    Normed w ((((w1.setCell ⟨g, 0, none⟩ (.int .i64 (nrm b))).setCell ⟨g, 1, none⟩ (.bool s)).setCell ⟨g + 1, 0, none⟩ (.int .i64 (nrm c))).setCell ⟨g + 1, 1, none⟩ (.bool t)) g b c s t := by
  refine ⟨(((hE.setCell hg _).setCell hg _).setCell (by simp; omega) _).setCell (by simp; omega) _, ?_, ?_, ?_, ?_, ?_, ?_⟩
  · exact kept_set (by simp) (kept_set (by simp) (kept_set (by simp) (set_same p0)))
  · exact kept_set (by simp) (kept_set (by simp) (set_same (kept_set (by simp) p1)))
  · exact kept_set (by simp) (set_same (kept_set (by simp) (kept_set (by simp) p2)))
  · exact set_same (kept_set (by simp) (kept_set (by simp) (kept_set (by simp) p3)))
  · exact kept_set (by simp) (kept_set (by simp) (kept_set (by simp) (kept_set (by simp) p4)))
  · exact kept_set (by simp) (kept_set (by simp) (kept_set (by simp) (kept_set (by simp) p5)))

set_option maxHeartbeats 2000000 in
theorem join_c (b c : Int) (s t : Bool) (w : World) :
    Calls Try.prog 87 #[.agg #[.int .i64 b, .bool s], .agg #[.int .i64 c, .bool t]] w fun e w' => e = .returned (.agg #[.int .i64 (max (nrm b) (nrm c)), .bool (s || t)]) ∧ Ext w w' := by
  go_enter Try.func87, Try.ntmps87
  go_wp2
  obtain ⟨W, g, hg, hW, hE, p0, p1, p2, p3, p4, p5, _⟩ := three_new w 78 (.int .i64 b) (.bool s) (.int .i64 c) (.bool t) (.int .i64 0) (.bool false)
  rw [hW, hg]
  have hgs : w.heap.size ≤ g := by omega
  clear hW hg
  go_cut [] (fun wx => Normed w wx g b c s t)
  case first =>
    go_region_with (go_at_call 123; refine (norm_c _ _ _).mono ?_; rintro e w1 ⟨rfl, hx⟩; have p0 := kept2 hx p0; have p1 := kept2 hx p1; have p2 := kept2 hx p2; have p3 := kept2 hx p3; have p4 := kept2 hx p4; have p5 := kept2 hx p5)
    all_goals (go_wp2_with fail; go_meet; refine normed hgs ?_ p0 p1 p2 p3 p4 p5)
    all_goals (repeat' first | (with_reducible exact Ext.refl _) | (with_reducible assumption) | (with_reducible refine Ext.drew ?_) | (with_reducible refine Ext.drewN ?_ _) | (with_reducible refine Ext.alloc ?_ _) | (with_reducible refine Ext.setCell ?_ (by first | (simp; done) | (simp; omega) | omega) _) | (with_reducible refine Ext.trans ?_ (by with_reducible assumption)))
  case rest =>
    obtain ⟨hX, q0, q1, q2, q3, q4, q5⟩ := hcut
    have hgx := hX.size
    cases s
    all_goals go_wp2
    all_goals refine bodyPost_ret (results_two (by repeat' first | (with_reducible exact some_of q4) | (with_reducible refine some_set ?_)) (by repeat' first | (with_reducible exact some_of q5) | (with_reducible refine some_set ?_)) rfl _ rfl Try.underlying78 rfl infoKnown) rfl ⟨ret_k (by omega) rfl, ?_⟩
    all_goals (repeat' first | (with_reducible exact Ext.refl _) | (with_reducible assumption) | (with_reducible refine Ext.drew ?_) | (with_reducible refine Ext.drewN ?_ _) | (with_reducible refine Ext.alloc ?_ _) | (with_reducible refine Ext.setCell ?_ (by first | (simp; done) | (simp; omega) | omega) _) | (with_reducible refine Ext.trans ?_ (by with_reducible assumption)))

set_option maxHeartbeats 2000000 in
theorem less_c (b c : Int) (s t : Bool) (w : World) :
    Calls Try.prog 91 #[.agg #[.int .i64 b, .bool s], .agg #[.int .i64 c, .bool t]] w fun e w' => e = .returned (.agg #[.int .i64 (min (nrm b) (nrm c)), .bool s]) ∧ Ext w w' := by
  go_enter Try.func91, Try.ntmps91
  go_wp2
  obtain ⟨W, g, hg, hW, hE, p0, p1, p2, p3, p4, p5, _⟩ := three_new w 78 (.int .i64 b) (.bool s) (.int .i64 c) (.bool t) (.int .i64 0) (.bool false)
  rw [hW, hg]
  have hgs : w.heap.size ≤ g := by omega
  clear hW hg
  go_cut [] (fun wx => Normed w wx g b c s t)
  case first =>
    go_region_with (go_at_call 123; refine (norm_c _ _ _).mono ?_; rintro e w1 ⟨rfl, hx⟩; have p0 := kept2 hx p0; have p1 := kept2 hx p1; have p2 := kept2 hx p2; have p3 := kept2 hx p3; have p4 := kept2 hx p4; have p5 := kept2 hx p5)
    all_goals (go_wp2_with fail; go_meet; refine normed hgs ?_ p0 p1 p2 p3 p4 p5)
    all_goals (repeat' first | (with_reducible exact Ext.refl _) | (with_reducible assumption) | (with_reducible refine Ext.drew ?_) | (with_reducible refine Ext.drewN ?_ _) | (with_reducible refine Ext.alloc ?_ _) | (with_reducible refine Ext.setCell ?_ (by first | (simp; done) | (simp; omega) | omega) _) | (with_reducible refine Ext.trans ?_ (by with_reducible assumption)))
  case rest =>
    obtain ⟨hX, q0, q1, q2, q3, q4, q5⟩ := hcut
    have hgx := hX.size
    go_wp2
    all_goals refine bodyPost_ret (results_two (by repeat' first | (with_reducible exact some_of q4) | (with_reducible refine some_set ?_)) (by repeat' first | (with_reducible exact some_of q5) | (with_reducible refine some_set ?_)) rfl _ rfl Try.underlying78 rfl infoKnown) rfl ⟨ret_k (by omega) rfl, ?_⟩
    all_goals (repeat' first | (with_reducible exact Ext.refl _) | (with_reducible assumption) | (with_reducible refine Ext.drew ?_) | (with_reducible refine Ext.drewN ?_ _) | (with_reducible refine Ext.alloc ?_ _) | (with_reducible refine Ext.setCell ?_ (by first | (simp; done) | (simp; omega) | omega) _) | (with_reducible refine Ext.trans ?_ (by with_reducible assumption)))
end Go.Proofs.Yteiknefajlocoaa
/- Walk of known.Of, by itself. -/
namespace Go.Proofs.Yteiknefajlocoaa
open Go.ChangeShapes Go.WideShapes Go.ChangeAt Go.RowKit

/-- a result of two cells, whose block is the last -/
theorem res_new {w : World} {fn : Func} {p : Tmp} {a0 a1 : Value} (hr : fn.results = #[.cell p 78]) (tmps : Array Value) (hp : tmps.getD p undef = .pointer (some ⟨w.heap.size, 0, none⟩)) :
    (results fn tmps).run Try.prog (w.alloc (.cells #[a0, a1] 78)) = .ok (.agg #[a0, a1]) (w.alloc (.cells #[a0, a1] 78)) :=
  results_blk (Blk.new w 78 #[a0, a1]) hr tmps hp Try.underlying78 rfl infoKnown

set_option maxHeartbeats 1000000 in
theorem kOf_c (n : Int) (w : World) :
    Calls Try.prog 89 #[.int .i64 n] w fun e w' => e = .returned (.agg #[.int .i64 (kof n), .bool false]) ∧ Ext w w' := by
  have Hk : Hid (kof n = if n < 0 ∨ 65536 ≤ n then (17 : Int) else ((Lib.bitLen n.toNat : Nat) : Int)) := rfl
  by_cases h0 : n < 0
  · go_enter Try.func89, Try.ntmps89
    go_wp2
    exact bodyPost_ret (v := .agg #[.int .i64 17, .bool false]) (by simp [results, Try.results89, go_sem]) rfl ⟨ret_k (by rw [Hk.out, if_pos (.inl h0)]) rfl, (Ext.refl _).alloc _⟩
  by_cases h1 : 65536 ≤ n
  · go_enter Try.func89, Try.ntmps89
    go_wp2
    exact bodyPost_ret (v := .agg #[.int .i64 17, .bool false]) (by simp [results, Try.results89, go_sem]) rfl ⟨ret_k (by rw [Hk.out, if_pos (.inr h1)]) rfl, (Ext.refl _).alloc _⟩
  have hu : IntKind.u64.wrap n = n := IntWalk.u64_in n (by omega)
  go_enter Try.func89, Try.ntmps89
  go_wp2_with (go_at_call 124; refine (Try.bits_Len64 n _ (by omega) (by omega)).mono ?_; rintro e w' ⟨rfl, rfl⟩)
  exact bodyPost_ret (v := .agg #[.int .i64 (Lib.bitLen n.toNat : Nat), .bool false]) (by simp [results, Try.results89, go_sem]) rfl ⟨ret_k (by rw [Hk.out, if_neg (by omega)]) rfl, (Ext.refl _).alloc _⟩
end Go.Proofs.Yteiknefajlocoaa
/- The reference's read, power, Has, Of, Op, Join, Less of what is known: walks (of Known2, Known3, Known4, for seats without known.Has). -/
namespace Go.Proofs.Yteiknefajlocoaa
open Go.ChangeShapes Go.WideShapes Go.ChangeAt Go.RowKit

theorem nrm_16 (b : Int) : (if b < 0 ∨ 16 < b then 17 else b) = nrm b := by unfold nrm; split <;> split <;> omega

set_option maxHeartbeats 1000000 in
theorem read_c (b : Int) (s : Bool) (w : World) :
    Calls Try.prog 127 #[.agg #[.int .i64 b, .bool s]] w fun e w' => e = .returned (.agg #[.int .i64 (nrm b), .bool s]) ∧ Ext w w' := by
  have Hn := Lib.hid (nrm_16 b)
  by_cases h0 : b < 0
  · go_enter Try.func127, Try.ntmps127
    go_wp2
    exact bodyPost_ret (v := .agg #[.int .i64 17, .bool s]) (by simp [results, Try.results127, go_sem]) rfl ⟨ret_k (by rw [← Hn.out, if_pos (.inl h0)]) rfl, ((Ext.refl _).alloc _).alloc _⟩
  by_cases h1 : 16 < b
  · go_enter Try.func127, Try.ntmps127
    go_wp2
    exact bodyPost_ret (v := .agg #[.int .i64 17, .bool s]) (by simp [results, Try.results127, go_sem]) rfl ⟨ret_k (by rw [← Hn.out, if_pos (.inr h1)]) rfl, ((Ext.refl _).alloc _).alloc _⟩
  have h0' : 0 ≤ b := by omega
  have h1' : b ≤ 16 := by omega
  go_enter Try.func127, Try.ntmps127
  go_wp2
  exact bodyPost_ret (v := .agg #[.int .i64 b, .bool s]) (by simp [results, Try.results127, go_sem]) rfl ⟨ret_k (by rw [← Hn.out, if_neg (by omega)]) rfl, ((Ext.refl _).alloc _).alloc _⟩

set_option maxHeartbeats 1000000 in
theorem power_c (m : Nat) (hm : m ≤ 16) (w : World) :
    Calls Try.prog 146 #[.int .i64 (m : Int)] w fun e w' => e = .returned (.int .i64 (2 ^ m)) ∧ w = w' := by
  go_enter Try.func146, Try.ntmps146
  go_wp2
  go_loop [3, 4] (fun s i => ∃ k : Nat, k ≤ m ∧ i = .int .i64 k ∧ s = .int .i64 (2 ^ k)) (fun _ i => m - (intOf i).toNat)
  case atStart => exact ⟨0, by omega, rfl, rfl⟩
  case round =>
    obtain ⟨k, hk, rfl, rfl⟩ := hrel
    by_cases hlt : k < m
    · have hp0 : (0 : Int) < 2 ^ k := Int.pow_pos (by omega)
      have hp1 : (2 : Int) ^ k ≤ 65536 := pow_le k 16 (by omega)
      have Hp : Hid ((2 : Int) ^ k + 2 ^ k = 2 ^ (k + 1)) := by show _ = _; rw [Int.pow_succ]; omega
      generalize (2 : Int) ^ k = p at *
      go_wp2
      go_round
      case rel => exact ⟨k + 1, by omega, by go_num, by rw [Hp.out]⟩
      case measure => first | (simp [intOf]; done) | (simp [intOf]; omega)
    · obtain rfl : k = m := by omega
      go_wp2
      go_ret
      exact ⟨rfl, rfl⟩

set_option maxHeartbeats 1000000 in
theorem rHas_c (b n : Int) (s : Bool) (w : World) :
    Calls Try.prog 126 #[.agg #[.int .i64 b, .bool s], .int .i64 n] w fun e w' => e = .returned (.bool (khas b n)) ∧ Ext w w' := by
  obtain ⟨b0, b1⟩ := nrm_bd b
  go_enter Try.func126, Try.ntmps126
  go_wp2_with fail
  obtain ⟨p0, p1⟩ := one_new w 78 (.int .i64 b) (.bool s)
  refine (read_c _ _ _).mono ?_
  rintro e w1 ⟨rfl, hx⟩
  have p0 := kept2 hx p0
  have p1 := kept2 hx p1
  have Hr : Hid (khas b n = kfit (nrm b) n) := rfl
  obtain ⟨m, hm⟩ := Int.eq_ofNat_of_zero_le b0
  rw [hm] at b1 Hr ⊢
  clear hm b0
  by_cases h17 : m = 17
  · subst h17
    go_wp2
    go_ret
    refine ⟨ret_b (by rw [Hr.out]; rfl), ?_⟩
    (repeat' first | (with_reducible exact Ext.refl _) | (with_reducible assumption) | (with_reducible refine Ext.drew ?_) | (with_reducible refine Ext.drewN ?_ _) | (with_reducible refine Ext.alloc ?_ _) | (with_reducible refine Ext.setCell ?_ (by first | (simp; done) | (simp; omega) | omega) _) | (with_reducible refine Ext.trans ?_ (by with_reducible assumption)))
  · have hne : ((m : Int) == 17) = false := by rw [beq_eq_false_iff_ne]; omega
    by_cases hn : 0 ≤ n
    · go_wp2_with (go_at_call 146; refine (power_c m (by omega) _).mono ?_; rintro e w' ⟨rfl, rfl⟩)
      all_goals go_ret
      all_goals refine ⟨ret_b ?_, ?_⟩
      all_goals first | (rw [Hr.out]; simp [kfit, hn]; omega) | skip
      all_goals (repeat' first | (with_reducible exact Ext.refl _) | (with_reducible assumption) | (with_reducible refine Ext.drew ?_) | (with_reducible refine Ext.drewN ?_ _) | (with_reducible refine Ext.alloc ?_ _) | (with_reducible refine Ext.setCell ?_ (by first | (simp; done) | (simp; omega) | omega) _) | (with_reducible refine Ext.trans ?_ (by with_reducible assumption)))
    · go_wp2
      all_goals go_ret
      all_goals refine ⟨ret_b ?_, ?_⟩
      all_goals first | (rw [Hr.out]; simp [kfit]; omega) | skip
      all_goals (repeat' first | (with_reducible exact Ext.refl _) | (with_reducible assumption) | (with_reducible refine Ext.drew ?_) | (with_reducible refine Ext.drewN ?_ _) | (with_reducible refine Ext.alloc ?_ _) | (with_reducible refine Ext.setCell ?_ (by first | (simp; done) | (simp; omega) | omega) _) | (with_reducible refine Ext.trans ?_ (by with_reducible assumption)))

/-- three blocks of two cells from block g on -/
def Cells6 (w W : World) (g : Nat) (a0 a1 b0 b1 c0 c1 : Value) : Prop :=
  Ext w W ∧ (W.cell? ⟨g, 0, none⟩ = some a0 ∧ W.frozen? ⟨g, 0, none⟩ = false) ∧ (W.cell? ⟨g, 1, none⟩ = some a1 ∧ W.frozen? ⟨g, 1, none⟩ = false) ∧
    (W.cell? ⟨g + 1, 0, none⟩ = some b0 ∧ W.frozen? ⟨g + 1, 0, none⟩ = false) ∧ (W.cell? ⟨g + 1, 1, none⟩ = some b1 ∧ W.frozen? ⟨g + 1, 1, none⟩ = false) ∧
    (W.cell? ⟨g + 1 + 1, 0, none⟩ = some c0 ∧ W.frozen? ⟨g + 1 + 1, 0, none⟩ = false) ∧ (W.cell? ⟨g + 1 + 1, 1, none⟩ = some c1 ∧ W.frozen? ⟨g + 1 + 1, 1, none⟩ = false)
section
variable {w W W' : World} {g : Nat} {a0 a1 b0 b1 c0 c1 : Value}
theorem cells6_new (w : World) (T : TypeId) (a0 a1 b0 b1 c0 c1 : Value) : ∃ W g, w.heap.size = g ∧ ((w.alloc (.cells #[a0, a1] T)).alloc (.cells #[b0, b1] T)).alloc (.cells #[c0, c1] T) = W ∧ Cells6 w W g a0 a1 b0 b1 c0 c1 := by
  obtain ⟨W, g, h1, h2, h3, h4, h5, h6, h7, h8, h9, _⟩ := three_new w T a0 a1 b0 b1 c0 c1
  exact ⟨W, g, h1, h2, h3, h4, h5, h6, h7, h8, h9⟩
theorem Cells6.ext (h : Cells6 w W g a0 a1 b0 b1 c0 c1) (hx : Ext W W') : Cells6 w W' g a0 a1 b0 b1 c0 c1 :=
  ⟨h.1.trans hx, kept2 hx h.2.1, kept2 hx h.2.2.1, kept2 hx h.2.2.2.1, kept2 hx h.2.2.2.2.1, kept2 hx h.2.2.2.2.2.1, kept2 hx h.2.2.2.2.2.2⟩
theorem Cells6.set01 (h : Cells6 w W g a0 a1 b0 b1 c0 c1) (hg : w.heap.size ≤ g) (x y : Value) : Cells6 w ((W.setCell ⟨g, 0, none⟩ x).setCell ⟨g, 1, none⟩ y) g x y b0 b1 c0 c1 :=
  ⟨(h.1.setCell hg _).setCell hg _, kept_set (by simp) (set_same h.2.1), set_same (kept_set (by simp) h.2.2.1), kept_set (by simp) (kept_set (by simp) h.2.2.2.1),
    kept_set (by simp) (kept_set (by simp) h.2.2.2.2.1), kept_set (by simp) (kept_set (by simp) h.2.2.2.2.2.1), kept_set (by simp) (kept_set (by simp) h.2.2.2.2.2.2)⟩
theorem Cells6.set23 (h : Cells6 w W g a0 a1 b0 b1 c0 c1) (hg : w.heap.size ≤ g) (x y : Value) : Cells6 w ((W.setCell ⟨g + 1, 0, none⟩ x).setCell ⟨g + 1, 1, none⟩ y) g a0 a1 x y c0 c1 :=
  ⟨(h.1.setCell (by simp; omega) _).setCell (by simp; omega) _, kept_set (by simp) (kept_set (by simp) h.2.1), kept_set (by simp) (kept_set (by simp) h.2.2.1), kept_set (by simp) (set_same h.2.2.2.1),
    set_same (kept_set (by simp) h.2.2.2.2.1), kept_set (by simp) (kept_set (by simp) h.2.2.2.2.2.1), kept_set (by simp) (kept_set (by simp) h.2.2.2.2.2.2)⟩
end

set_option maxHeartbeats 1000000 in
theorem upTo_c (n : Int) (w : World) :
    Calls Try.prog 128 #[.int .i64 n] w fun e w' => e = .returned (.int .i64 (if 16 < n then 17 else n)) ∧ w = w' := by
  have Hi := Lib.hid (rfl : (if 16 < n then 17 else n) = (if 16 < n then (17 : Int) else n))
  by_cases h : 16 < n
  · rw [if_pos h]
    go_enter Try.func128, Try.ntmps128
    go_wp2
    go_ret
    exact ⟨rfl, rfl⟩
  · rw [if_neg h]
    go_enter Try.func128, Try.ntmps128
    go_wp2
    go_ret
    exact ⟨rfl, rfl⟩

set_option maxHeartbeats 2000000 in
theorem rJoin_c (b c : Int) (s t : Bool) (w : World) :
    Calls Try.prog 125 #[.agg #[.int .i64 b, .bool s], .agg #[.int .i64 c, .bool t]] w fun e w' => e = .returned (.agg #[.int .i64 (max (nrm b) (nrm c)), .bool (s || t)]) ∧ Ext w w' := by
  go_enter Try.func125, Try.ntmps125
  go_wp2_with fail
  obtain ⟨W, g, hg, hW, H⟩ := cells6_new w 78 (.int .i64 b) (.bool s) (.int .i64 c) (.bool t) (.int .i64 0) (.bool false)
  rw [hW, hg]
  have hgs : w.heap.size ≤ g := by omega
  clear hW hg
  refine (read_c _ _ _).mono ?_
  rintro e w1 ⟨rfl, hx⟩
  have H := H.ext hx
  clear hx
  obtain ⟨hX, q0, q1, q2, q3, q4, q5⟩ := id H
  go_wp2_with fail
  have H := H.set01 hgs (.int .i64 (nrm b)) (.bool s)
  clear hX q0 q1 q2 q3 q4 q5
  generalize (w1.setCell ⟨g, 0, none⟩ (.int .i64 (nrm b))).setCell ⟨g, 1, none⟩ (.bool s) = w2 at *
  refine (read_c _ _ _).mono ?_
  rintro e w3 ⟨rfl, hx⟩
  have H := H.ext hx
  clear hx
  have H2 := H.set23 hgs (.int .i64 (nrm c)) (.bool t)
  obtain ⟨hX, q0, q1, q2, q3, q4, q5⟩ := H
  clear H2
  cases s
  all_goals go_wp2
  all_goals refine bodyPost_ret (results_two (by repeat' first | (with_reducible exact some_of q4) | (with_reducible refine some_set ?_) | (with_reducible refine some_alloc ?_)) (by repeat' first | (with_reducible exact some_of q5) | (with_reducible refine some_set ?_) | (with_reducible refine some_alloc ?_)) rfl _ rfl Try.underlying78 rfl infoKnown) rfl ⟨ret_k (by omega) rfl, ?_⟩
  all_goals (repeat' first | (with_reducible exact Ext.refl _) | (with_reducible assumption) | (with_reducible refine Ext.drew ?_) | (with_reducible refine Ext.drewN ?_ _) | (with_reducible refine Ext.alloc ?_ _) | (with_reducible refine Ext.setCell ?_ (by first | (simp; done) | (simp; omega) | omega) _) | (with_reducible refine Ext.trans ?_ (by with_reducible assumption)))

set_option maxHeartbeats 2000000 in
theorem rLess_c (b c : Int) (s t : Bool) (w : World) :
    Calls Try.prog 98 #[.agg #[.int .i64 b, .bool s], .agg #[.int .i64 c, .bool t]] w fun e w' => e = .returned (.agg #[.int .i64 (min (nrm b) (nrm c)), .bool s]) ∧ Ext w w' := by
  go_enter Try.func98, Try.ntmps98
  go_wp2_with fail
  obtain ⟨W, g, hg, hW, H⟩ := cells6_new w 78 (.int .i64 b) (.bool s) (.int .i64 c) (.bool t) (.int .i64 0) (.bool false)
  rw [hW, hg]
  have hgs : w.heap.size ≤ g := by omega
  clear hW hg
  refine (read_c _ _ _).mono ?_
  rintro e w1 ⟨rfl, hx⟩
  have H := H.ext hx
  clear hx
  obtain ⟨hX, q0, q1, q2, q3, q4, q5⟩ := id H
  go_wp2_with fail
  have H := H.set01 hgs (.int .i64 (nrm b)) (.bool s)
  clear hX q0 q1 q2 q3 q4 q5
  generalize (w1.setCell ⟨g, 0, none⟩ (.int .i64 (nrm b))).setCell ⟨g, 1, none⟩ (.bool s) = w2 at *
  refine (read_c _ _ _).mono ?_
  rintro e w3 ⟨rfl, hx⟩
  have H := H.ext hx
  clear hx
  have H2 := H.set23 hgs (.int .i64 (nrm c)) (.bool t)
  obtain ⟨hX, q0, q1, q2, q3, q4, q5⟩ := H
  clear H2
  go_wp2
  all_goals refine bodyPost_ret (results_two (by repeat' first | (with_reducible exact some_of q4) | (with_reducible refine some_set ?_) | (with_reducible refine some_alloc ?_)) (by repeat' first | (with_reducible exact some_of q5) | (with_reducible refine some_set ?_) | (with_reducible refine some_alloc ?_)) rfl _ rfl Try.underlying78 rfl infoKnown) rfl ⟨ret_k (by omega) rfl, ?_⟩
  all_goals (repeat' first | (with_reducible exact Ext.refl _) | (with_reducible assumption) | (with_reducible refine Ext.drew ?_) | (with_reducible refine Ext.drewN ?_ _) | (with_reducible refine Ext.alloc ?_ _) | (with_reducible refine Ext.setCell ?_ (by first | (simp; done) | (simp; omega) | omega) _) | (with_reducible refine Ext.trans ?_ (by with_reducible assumption)))

theorem cells8_new {w W : World} {g : Nat} {a0 a1 b0 b1 c0 c1 : Value} (h : Cells6 w W g a0 a1 b0 b1 c0 c1) (T : TypeId) (x y : Value) : ∃ W' k, W.heap.size = k ∧ W.alloc (.cells #[x, y] T) = W' ∧ g + 1 + 1 < k ∧ Cells6 w W' g a0 a1 b0 b1 c0 c1 ∧
    (W'.cell? ⟨k, 0, none⟩ = some x ∧ W'.frozen? ⟨k, 0, none⟩ = false) ∧ (W'.cell? ⟨k, 1, none⟩ = some y ∧ W'.frozen? ⟨k, 1, none⟩ = false) :=
  ⟨_, _, rfl, rfl, block_lt h.2.2.2.2.2.1.1, h.ext ((Ext.refl _).alloc _), (one_new W T x y).1, (one_new W T x y).2⟩

set_option maxHeartbeats 8000000 in
theorem rKop_c (op b c : Int) (s t : Bool) (w : World) :
    Calls Try.prog 99 #[.int .i64 op, .agg #[.int .i64 b, .bool s], .agg #[.int .i64 c, .bool t]] w fun e w' => e = .returned (.agg #[.int .i64 (kop op (nrm b) (nrm c)), .bool (s || t)]) ∧ Ext w w' := by
  obtain ⟨b0, b1⟩ := nrm_bd b
  obtain ⟨c0, c1⟩ := nrm_bd c
  go_enter Try.func99, Try.ntmps99
  go_wp2_with fail
  obtain ⟨W, g, hg, hW, H⟩ := cells6_new w 78 (.int .i64 b) (.bool s) (.int .i64 c) (.bool t) (.int .i64 0) (.bool false)
  rw [hW, hg]
  have hgs : w.heap.size ≤ g := by omega
  clear hW hg
  refine (read_c _ _ _).mono ?_
  rintro e w1 ⟨rfl, hx⟩
  have H := H.ext hx
  clear hx
  obtain ⟨hX, q0, q1, q2, q3, q4, q5⟩ := id H
  go_wp2_with fail
  have H := H.set01 hgs (.int .i64 (nrm b)) (.bool s)
  clear hX q0 q1 q2 q3 q4 q5
  generalize (w1.setCell ⟨g, 0, none⟩ (.int .i64 (nrm b))).setCell ⟨g, 1, none⟩ (.bool s) = w2 at *
  refine (read_c _ _ _).mono ?_
  rintro e w3 ⟨rfl, hx⟩
  have H := H.ext hx
  clear hx
  have H2 := H.set23 hgs (.int .i64 (nrm c)) (.bool t)
  obtain ⟨hX, q0, q1, q2, q3, q4, q5⟩ := H
  go_upto_region 3 with fail
  clear hX q0 q1 q2 q3 q4 q5
  generalize (w3.setCell ⟨g + 1, 0, none⟩ (.int .i64 (nrm c))).setCell ⟨g + 1, 1, none⟩ (.bool t) = w4 at *
  obtain ⟨hX, q0, q1, q2, q3, q4, q5⟩ := id H2
  have hlt : g + 1 + 1 < w4.heap.size := block_lt q4.1
  have hlt1 : g + 1 < w4.heap.size := by omega
  have hlt0 : g < w4.heap.size := by omega
  cases s
  all_goals
    go_upto_region 4 with fail
    obtain ⟨w5, k, hk, hW, hgk, H, k0, k1⟩ := cells8_new H2 78 (.int .i64 17) _
    rw [hW, hk]
    clear hW hk H2 hX q0 q1 q2 q3 q4 q5 hlt hlt1 hlt0
    obtain ⟨hX, q0, q1, q2, q3, q4, q5⟩ := H
    have hgz := hX.size
    go_upto_if 29 with fail
    go_cut [8, 9] (fun s8 s9 wx => s8 = .int .i64 (max (nrm b) (nrm c)) ∧ s9 = .int .i64 (min (nrm b) (nrm c)) ∧ wx = w5)
    case first =>
      go_wp2
      all_goals
        go_meet
        exact ⟨congrArg (Value.int IntKind.i64) (by omega), congrArg (Value.int IntKind.i64) (by omega), rfl⟩
    case rest =>
      obtain ⟨rfl, rfl, rfl⟩ := hcut
      by_cases h : op = 1 ∨ op = 3 ∨ op = 4 ∨ op = 5 ∨ op = 6 ∨ op = 8 ∨ op = 9 ∨ op = 10
      · rcases h with rfl | rfl | rfl | rfl | rfl | rfl | rfl | rfl
        all_goals go_wp2_with (go_at_call 128; refine (upTo_c _ _).mono ?_; rintro e w' ⟨rfl, rfl⟩)
        all_goals refine bodyPost_ret (results_two (by repeat' first | (with_reducible exact some_of q4) | (with_reducible refine some_set ?_)) (by repeat' first | (with_reducible exact some_of q5) | (with_reducible refine some_set ?_)) rfl _ rfl Try.underlying78 rfl infoKnown) rfl ⟨ret_k (by first | (simp [kop, kopN]; omega) | (simp only [beq_iff_eq, beq_eq_false_iff_ne, ne_eq] at *; simp [kop, kopN]; omega) | (simp only [beq_iff_eq, beq_eq_false_iff_ne, ne_eq] at *; simp [kop, kopN]; split <;> omega)) rfl, ?_⟩
        all_goals (repeat' first | (with_reducible exact Ext.refl _) | (with_reducible assumption) | (with_reducible refine Ext.drew ?_) | (with_reducible refine Ext.drewN ?_ _) | (with_reducible refine Ext.alloc ?_ _) | (with_reducible refine Ext.setCell ?_ (by first | (simp; done) | (simp; omega) | omega) _) | (with_reducible refine Ext.trans ?_ (by with_reducible assumption)))
      · have Hk := Lib.hid (kopN_other (op := op) (nrm b) (nrm c) (by omega) (by omega) (by omega) (by omega) (by omega) (by omega) (by omega) (by omega))
        have e1 : (op == 1) = false := by rw [beq_eq_false_iff_ne]; omega
        have e3 : (op == 3) = false := by rw [beq_eq_false_iff_ne]; omega
        have e4 : (op == 4) = false := by rw [beq_eq_false_iff_ne]; omega
        have e5 : (op == 5) = false := by rw [beq_eq_false_iff_ne]; omega
        have e6 : (op == 6) = false := by rw [beq_eq_false_iff_ne]; omega
        have e8 : (op == 8) = false := by rw [beq_eq_false_iff_ne]; omega
        have e9 : (op == 9) = false := by rw [beq_eq_false_iff_ne]; omega
        have e10 : (op == 10) = false := by rw [beq_eq_false_iff_ne]; omega
        clear h
        go_wp2
        refine bodyPost_ret (results_two (by repeat' first | (with_reducible exact some_of q4) | (with_reducible refine some_set ?_)) (by repeat' first | (with_reducible exact some_of q5) | (with_reducible refine some_set ?_)) rfl _ rfl Try.underlying78 rfl infoKnown) rfl ⟨ret_k (by unfold kop; rw [Hk.out]; rfl) rfl, ?_⟩
        (repeat' first | (with_reducible exact Ext.refl _) | (with_reducible assumption) | (with_reducible refine Ext.drew ?_) | (with_reducible refine Ext.drewN ?_ _) | (with_reducible refine Ext.alloc ?_ _) | (with_reducible refine Ext.setCell ?_ (by first | (simp; done) | (simp; omega) | omega) _) | (with_reducible refine Ext.trans ?_ (by with_reducible assumption)))

set_option maxHeartbeats 1000000 in
theorem rOf_c (n : Int) (w : World) :
    Calls Try.prog 97 #[.int .i64 n] w fun e w' => e = .returned (.agg #[.int .i64 (kof n), .bool false]) ∧ Ext w w' := by
  obtain ⟨k0, k1⟩ := kof_bd n
  have Hf : Hid (∀ k : Nat, k ≤ 16 → khas k n = decide (kof n ≤ k)) := fun k hk => kof_fits n k hk
  go_enter Try.func97, Try.ntmps97
  go_wp2
  go_loopw [3] (fun i wr => ∃ k : Nat, k ≤ 17 ∧ i = .int .i64 k ∧ (k : Int) ≤ kof n ∧ Ext w wr ∧ Blk wr w.heap.size 78 #[.int .i64 0, .bool false]) (fun i _ => 17 - (intOf i).toNat)
  case atStart => exact ⟨0, by omega, rfl, by omega, (Ext.refl _).alloc _, Blk.new _ _ _⟩
  case round =>
    obtain ⟨k, hk, rfl, hle, hX, hB⟩ := hrel
    have q4 : wr.cell? ⟨w.heap.size, 0, none⟩ = some (.int .i64 0) ∧ wr.frozen? ⟨w.heap.size, 0, none⟩ = false := ⟨by rw [hB.cell]; rfl, hB.frozen 0⟩
    have q5 : wr.cell? ⟨w.heap.size, 1, none⟩ = some (.bool false) ∧ wr.frozen? ⟨w.heap.size, 1, none⟩ = false := ⟨by rw [hB.cell]; rfl, hB.frozen 1⟩
    by_cases hlt : k < 17
    · have hfk := Hf.out k (by omega)
      have HB := Lib.hid hB
      clear hB
      by_cases hh : kof n ≤ k
      · have he : kof n = k := by omega
        have He := Lib.hid he
        have hfk' : khas k n = true := by rw [hfk]; simp; omega
        clear hfk he hh
        go_wp2_with fail
        refine (rHas_c _ _ _ _).mono ?_
        rintro e w1 ⟨rfl, hx⟩
        rw [hfk']
        have q4 := kept2 hx q4
        have q5 := kept2 hx q5
        go_wp2
        refine bodyPost_ret (results_two (by repeat' first | (with_reducible exact some_of q4) | (with_reducible refine some_set ?_) | (with_reducible refine some_alloc ?_)) (by repeat' first | (with_reducible exact some_of q5) | (with_reducible refine some_set ?_) | (with_reducible refine some_alloc ?_)) rfl _ rfl Try.underlying78 rfl infoKnown) rfl ⟨ret_k He.out.symm rfl, ?_⟩
        (repeat' first | (with_reducible exact Ext.refl _) | (with_reducible assumption) | (with_reducible refine Ext.drew ?_) | (with_reducible refine Ext.drewN ?_ _) | (with_reducible refine Ext.alloc ?_ _) | (with_reducible refine Ext.setCell ?_ (by first | (simp; done) | (simp; omega) | omega) _) | (with_reducible refine Ext.trans ?_ (by with_reducible assumption)))
      · have hfk' : khas k n = false := by rw [hfk]; simp; omega
        clear hfk
        go_wp2_with fail
        refine (rHas_c _ _ _ _).mono ?_
        rintro e w1 ⟨rfl, hx⟩
        rw [hfk']
        go_wp2
        go_roundw
        case rel => exact ⟨k + 1, by omega, by go_num, by omega, hX.trans hx, HB.out.ext hx⟩
        case measure => first | (simp [intOf]; done) | (simp [intOf]; omega)
    · obtain rfl : k = 17 := by omega
      have He : Hid (kof n = 17) := by show _ = _; omega
      clear hlt hle
      go_wp2
      refine bodyPost_ret (results_two (by repeat' first | (with_reducible exact some_of q4) | (with_reducible refine some_set ?_) | (with_reducible refine some_alloc ?_)) (by repeat' first | (with_reducible exact some_of q5) | (with_reducible refine some_set ?_) | (with_reducible refine some_alloc ?_)) rfl _ rfl Try.underlying78 rfl infoKnown) rfl ⟨ret_k He.out.symm rfl, ?_⟩
      (repeat' first | (with_reducible exact Ext.refl _) | (with_reducible assumption) | (with_reducible refine Ext.drew ?_) | (with_reducible refine Ext.drewN ?_ _) | (with_reducible refine Ext.alloc ?_ _) | (with_reducible refine Ext.setCell ?_ (by first | (simp; done) | (simp; omega) | omega) _) | (with_reducible refine Ext.trans ?_ (by with_reducible assumption)))
end Go.Proofs.Yteiknefajlocoaa
