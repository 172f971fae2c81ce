/- Laid together from: Seq1, Ck1, Known, KOf, KnownOp, Ck2, CkL. -/
import Derived.Test.YteiknefajlocoaaHardenSameB15
import Derived.Test.YteiknefajlocoaaHardenSameB11
import Derived.Test.YteiknefajlocoaaHardenSameB3
import Derived.Test.YteiknefajlocoaaHardenSameB12
import Derived.Test.YteiknefajlocoaaHardenSameB7
import Derived.Test.YteiknefajlocoaaHardenSameB2
import Derived.Deep.RegionWith
import Derived.Deep.DeepCutAuto
import Derived.Test.YteiknefajlocoaaHardenSameB4
import Derived.Test.YteiknefajlocoaaProg

/- The program's running machine in memory: what each of its writes does to it. -/
namespace Go.Proofs.Yteiknefajlocoaa
open Go.ChangeShapes Go.WideShapes Go.ChangeAt Go.RowKit
set_option linter.unusedVariables false
set_option linter.unusedSimpArgs false

/-- of what was there only blocks of S may have turned -/
structure Turn (S : Nat → Prop) (w w' : World) : Prop where
  os : w'.os = w.os
  tape : w'.tape = w.tape
  output : w'.output = w.output
  size : w.heap.size ≤ w'.heap.size
  block : ∀ j, j < w.heap.size → ¬ S j → w'.heap[j]? = w.heap[j]?
section
variable {S S' : Nat → Prop} {w w' w'' : World}
theorem Turn.ofExt (h : Ext w w') : Turn S w w' := ⟨h.os, h.tape, h.output, h.size, fun j hj _ => Below.block h j hj⟩
theorem Turn.refl (w : World) : Turn S w w := Turn.ofExt (Ext.refl w)
theorem Turn.trans (h : Turn S w w') (k : Turn S' w' w'') (hs : ∀ j, j < w.heap.size → S' j → S j) : Turn S w w'' :=
  ⟨k.os.trans h.os, k.tape.trans h.tape, k.output.trans h.output, Nat.le_trans h.size k.size, fun j hj hn => (k.block j (Nat.lt_of_lt_of_le hj h.size) (fun e => hn (hs j hj e))).trans (h.block j hj hn)⟩
theorem Turn.ext (h : Turn S w w') (k : Ext w' w'') : Turn S w w'' := h.trans (Turn.ofExt (S := S) k) (fun _ _ e => e)
theorem Turn.grown {row : Option Nat} (h : w.grownBy w' row) : Turn (fun j => row = some j) w w' := ⟨h.os, h.tape, h.output, h.size, fun j hj hn => h.block j hj (fun e => hn e.symm)⟩
theorem Turn.set (w : World) (p : Addr) (u : Value) : Turn (fun j => j = p.block) w (w.setCell p u) := ⟨rfl, rfl, rfl, by simp [World.setCell], fun j hj hn => Below.heap_setCell w p u j hn⟩
theorem Turn.mono (h : Turn S w w') (hs : ∀ j, S j → S' j) : Turn S' w w' := ⟨h.os, h.tape, h.output, h.size, fun j hj hn => h.block j hj (fun e => hn (hs j e))⟩
theorem Turn.below {B : Nat} (h : Turn S w w') (hB : B ≤ w.heap.size) (hs : ∀ j, S j → B ≤ j) : Below B w w' :=
  ⟨h.os, h.tape, h.output, h.size, fun j hj => h.block j (Nat.lt_of_lt_of_le hj hB) (fun e => by have := hs j e; omega)⟩
theorem Blk.turn {g : Nat} {t : TypeId} {cs : Array Value} (h : Blk w g t cs) (ht : Turn S w w') (hn : ¬ S g) : Blk w' g t cs := (ht.block g h.lt hn).trans h
end

/-- the cells of a machine -/
def machL (vR vC : Value) (fin value : Int) (steps : Nat) (vS vM : Value) (regs : List Int) (vW : Value) (at_ : Nat) (vB : Value) : List Value :=
  [vR, vC, .int .i64 fin, .int .i64 value, .int .i64 steps, vS, vM] ++ (regs.map (Value.int .i64) ++ [vW, .int .i64 at_, vB])
section
variable {vR vC vS vM vW vB u : Value} {fin value x : Int} {steps at_ : Nat} {regs : List Int}
theorem mach_reg (h : regs.length = 10) {a : Int} (ha : a.toNat < 10) : (machL vR vC fin value steps vS vM regs vW at_ vB).toArray[7 + a.toNat]? = some (.int .i64 (rg regs a)) := by
  have h2 : a.toNat < regs.length := by omega
  rw [List.getElem?_toArray]
  unfold machL
  rw [List.getElem?_append_right (by simp), List.getElem?_append_left (by simp; omega)]
  simp [rg, h2]
end

/-- a machine at block g: its rows are of the call's own, from block B on -/
structure MSt (w : World) (B g : Nat) (vR vC vM vB vS vW : Value) (bases : List Int) (M : Mach) : Prop where
  box : Blk w g 110 (machL vR vC M.fin M.value M.steps vS vM M.regs vW M.at_ vB).toArray
  sn : w.ownsRow B 98 3 vS M.seen.length (M.seen.flatMap seeCells)
  ws : w.ownsRow B 2 1 vW M.words.length (M.words.map (Value.int .i64))
  bs : w.ownsRow B 3 1 vB bases.length (bases.map (Value.int .i64))
  len : M.regs.length = 10
  hg : B ≤ g
section
variable {w w' : World} {B g : Nat} {vR vC vM vB vS vW : Value} {bases : List Int} {M : Mach}
theorem MSt.size (h : MSt w B g vR vC vM vB vS vW bases M) : B ≤ w.heap.size := by have := h.box.lt; have := h.hg; omega
theorem MSt.ext (h : MSt w B g vR vC vM vB vS vW bases M) (hx : Ext w w') : MSt w' B g vR vC vM vB vS vW bases M :=
  ⟨h.box.ext hx, own_ext h.sn hx, own_ext h.ws hx, own_ext h.bs hx, h.len, h.hg⟩
theorem MSt.gs (h : MSt w B g vR vC vM vB vS vW bases M) : some g ≠ vS.ownBlock := own_ne h.sn h.box (by decide)
theorem MSt.gw (h : MSt w B g vR vC vM vB vS vW bases M) : some g ≠ vW.ownBlock := own_ne h.ws h.box (by decide)
theorem MSt.gb (h : MSt w B g vR vC vM vB vS vW bases M) : some g ≠ vB.ownBlock := own_ne h.bs h.box (by decide)
/-- cells of its box put: what they hold now -/
theorem MSt.put (h : MSt w B g vR vC vM vB vS vW bases M) (i : Nat) (u : Value) {M' : Mach} (h1 : M'.seen = M.seen) (h2 : M'.words = M.words) (h3 : M'.regs.length = 10)
    (hc : (machL vR vC M.fin M.value M.steps vS vM M.regs vW M.at_ vB).toArray.setIfInBounds i u = (machL vR vC M'.fin M'.value M'.steps vS vM M'.regs vW M'.at_ vB).toArray) :
    MSt (w.setCell ⟨g, i, none⟩ u) B g vR vC vM vB vS vW bases M' :=
  ⟨by rw [← hc]; exact h.box.set_ i u, by rw [h1]; exact own_far h.sn h.gs u, by rw [h2]; exact own_far h.ws h.gw u, own_far h.bs h.gb u, h3, h.hg⟩
/-- a word put -/
theorem MSt.word (h : MSt w B g vR vC vM vB vS vW bases M) {x k cap : Nat} (hv : vW = .slice (some ⟨k, 0, none⟩) M.words.length cap) (z : Int) :
    MSt (w.setCell ⟨k, x, none⟩ (.int .i64 z)) B g vR vC vM vB vS vW bases { M with words := M.words.set x z } := by
  subst hv
  have hws := h.ws
  have hkg := h.gw
  have hset := set_grown w ⟨k, x, none⟩ (.int .i64 z)
  refine ⟨h.box.far (p := ⟨k, x, none⟩) (by intro e; exact hkg (by simp [Value.ownBlock, e])) _, own_grown h.sn hset (fun j e he => own_ne2 h.sn h.ws (by decide) j he (by simpa [Value.ownBlock] using e)), ?_,
    own_grown h.bs hset (fun j e he => own_ne2 h.bs h.ws (by decide) j he (by simpa [Value.ownBlock] using e)), h.len, h.hg⟩
  have := (hws.stored x (.int .i64 z)).1
  simp only [List.length_set]
  rw [List.map_set]
  exact this
theorem MSt.cells (h : MSt w B g vR vC vM vB vS vW bases M) :
    (w.cell? ⟨g, 0, none⟩ = some vR ∧ w.frozen? ⟨g, 0, none⟩ = false) ∧ (w.cell? ⟨g, 1, none⟩ = some vC ∧ w.frozen? ⟨g, 1, none⟩ = false) ∧ (w.cell? ⟨g, 2, none⟩ = some (.int .i64 M.fin) ∧ w.frozen? ⟨g, 2, none⟩ = false) ∧
    (w.cell? ⟨g, 3, none⟩ = some (.int .i64 M.value) ∧ w.frozen? ⟨g, 3, none⟩ = false) ∧ (w.cell? ⟨g, 4, none⟩ = some (.int .i64 M.steps) ∧ w.frozen? ⟨g, 4, none⟩ = false) ∧ (w.cell? ⟨g, 5, none⟩ = some vS ∧ w.frozen? ⟨g, 5, none⟩ = false) ∧
    (w.cell? ⟨g, 6, none⟩ = some vM ∧ w.frozen? ⟨g, 6, none⟩ = false) ∧ (w.cell? ⟨g, 17, none⟩ = some vW ∧ w.frozen? ⟨g, 17, none⟩ = false) ∧ (w.cell? ⟨g, 18, none⟩ = some (.int .i64 M.at_) ∧ w.frozen? ⟨g, 18, none⟩ = false) ∧
    (w.cell? ⟨g, 19, none⟩ = some vB ∧ w.frozen? ⟨g, 19, none⟩ = false) := by
  have hl := h.len
  refine ⟨⟨?_, h.box.frozen _⟩, ⟨?_, h.box.frozen _⟩, ⟨?_, h.box.frozen _⟩, ⟨?_, h.box.frozen _⟩, ⟨?_, h.box.frozen _⟩, ⟨?_, h.box.frozen _⟩, ⟨?_, h.box.frozen _⟩, ⟨?_, h.box.frozen _⟩, ⟨?_, h.box.frozen _⟩, ⟨?_, h.box.frozen _⟩⟩ <;>
    (rw [h.box.cell]; simp [machL, List.getElem?_append, hl])
theorem MSt.reg (h : MSt w B g vR vC vM vB vS vW bases M) {a : Int} (ha : okIn 10 a = true) : w.cell? ⟨g, 7 + a.toNat, none⟩ = some (.int .i64 (rg M.regs a)) ∧ w.frozen? ⟨g, 7 + a.toNat, none⟩ = false := by
  obtain ⟨h0, h1⟩ := okIn_iff.1 ha
  exact ⟨by rw [h.box.cell]; exact mach_reg h.len (by omega), h.box.frozen _⟩
/-- behind a call that may show something -/
def SPost (w w' : World) (B g : Nat) (vR vC vM vB vS vW : Value) (bases : List Int) (M' : Mach) : Prop :=
  ∃ vS', MSt w' B g vR vC vM vB vS' vW bases M' ∧ Turn (fun j => j = g ∨ vS.ownBlock = some j) w w' ∧ (∀ j, vS'.ownBlock = some j → vS.ownBlock = some j ∨ w.heap.size ≤ j)
theorem SPost.keep {w1 : World} {M' : Mach} (h : MSt w' B g vR vC vM vB vS vW bases M') (ht : Turn (fun j => j = g ∨ vS.ownBlock = some j) w w') : SPost w w' B g vR vC vM vB vS vW bases M' := ⟨vS, h, ht, fun _ e => .inl e⟩
end
end Go.Proofs.Yteiknefajlocoaa
/- What is known, state by state, in memory: the program's checker. -/
namespace Go.Proofs.Yteiknefajlocoaa
open Go.ChangeShapes Go.WideShapes Go.ChangeAt Go.RowKit
set_option linter.unusedVariables false
set_option linter.unusedSimpArgs false

def knCells (k : LKn) : List Value := [.int .i64 k.bits, .bool k.sec]
def knV (k : LKn) : Value := .agg #[.int .i64 k.bits, .bool k.sec]
def stV (s : KSt) : Array Value := (s.flatMap knCells).toArray
theorem kn_size (s : KSt) : (s.flatMap knCells).length = s.length * 2 := by
  induction s with
  | nil => rfl
  | cons k s ih => rw [List.flatMap_cons, List.length_append, ih, List.length_cons]; simp [knCells]; omega
theorem stV_size {s : KSt} (h : s.length = 8) : (stV s).size = 16 := by
  unfold stV
  rw [List.size_toArray, kn_size, h]
theorem kn_get : ∀ (s : KSt) (a : Nat), a < s.length → (s.flatMap knCells)[a * 2]? = some (.int .i64 (s.getD a default).bits) ∧ (s.flatMap knCells)[a * 2 + 1]? = some (.bool (s.getD a default).sec)
  | [], a, h => by simp at h
  | k :: s, 0, h => by simp [knCells]
  | k :: s, a + 1, h => by
    have := kn_get s a (by simpa using h)
    rw [List.flatMap_cons, show (a + 1) * 2 = a * 2 + 2 by omega, show a * 2 + 2 + 1 = a * 2 + 1 + 2 by omega]
    simp only [knCells, List.cons_append, List.nil_append, List.getElem?_cons_succ, List.getD_cons_succ]
    exact this
theorem stV_get {s : KSt} (h : s.length = 8) {a : Int} (ha : a.toNat < 8) : (stV s)[a.toNat * 2]? = some (.int .i64 (kg s a).bits) ∧ (stV s)[a.toNat * 2 + 1]? = some (.bool (kg s a).sec) := by
  have := kn_get s a.toNat (by omega)
  unfold stV kg
  simpa using this
theorem kn_set : ∀ (s : KSt) (a : Nat) (k : LKn), a < s.length → ((s.flatMap knCells).set (a * 2) (.int .i64 k.bits)).set (a * 2 + 1) (.bool k.sec) = (s.set a k).flatMap knCells
  | [], a, k, h => by simp at h
  | x :: s, 0, k, h => by simp [knCells]
  | x :: s, a + 1, k, h => by
    have := kn_set s a k (by simpa using h)
    rw [List.flatMap_cons, show (a + 1) * 2 = a * 2 + 2 by omega, show a * 2 + 2 + 1 = a * 2 + 1 + 2 by omega, List.set_cons_succ, List.flatMap_cons]
    simp only [knCells, List.cons_append, List.nil_append, List.set_cons_succ]
    rw [this]
theorem stV_set {s : KSt} (h : s.length = 8) {a : Int} (ha : a.toNat < 8) (k : LKn) : ((stV s).setIfInBounds (a.toNat * 2) (.int .i64 k.bits)).setIfInBounds (a.toNat * 2 + 1) (.bool k.sec) = stV (kset s a k) := by
  have := kn_set s a.toNat k (by omega)
  unfold stV kset
  rw [← this]
  simp
theorem stV_one (s : KSt) : (stV s).all (·.oneCell') = true := by
  unfold stV
  rw [Array.all_eq_true']
  intro u hu
  simp only [List.mem_toArray, List.mem_flatMap, knCells, List.mem_cons, List.not_mem_nil, or_false] at hu
  obtain ⟨k, -, rfl | rfl⟩ := hu <;> rfl
section
variable {w w' : World} {k : Nat} {s : KSt}
/-- a register's cells -/
theorem st_cell (h : Blk w k 80 (stV s)) (hl : s.length = 8) {a : Int} (ha : okIn 8 a = true) :
    (w.cell? ⟨k, a.toNat * 2, none⟩ = some (.int .i64 (kg s a).bits) ∧ w.frozen? ⟨k, a.toNat * 2, none⟩ = false) ∧ (w.cell? ⟨k, a.toNat * 2 + 1, none⟩ = some (.bool (kg s a).sec) ∧ w.frozen? ⟨k, a.toNat * 2 + 1, none⟩ = false) := by
  obtain ⟨h0, h1⟩ := okIn_iff.1 ha
  obtain ⟨g1, g2⟩ := stV_get hl (a := a) (by omega)
  exact ⟨⟨by rw [h.cell, g1], h.frozen _⟩, ⟨by rw [h.cell, g2], h.frozen _⟩⟩
/-- a register put -/
theorem st_put (h : Blk w k 80 (stV s)) (hl : s.length = 8) {a : Int} (ha : okIn 8 a = true) (x : LKn) :
    Blk ((w.setCell ⟨k, a.toNat * 2, none⟩ (.int .i64 x.bits)).setCell ⟨k, a.toNat * 2 + 1, none⟩ (.bool x.sec)) k 80 (stV (kset s a x)) := by
  obtain ⟨h0, h1⟩ := okIn_iff.1 ha
  rw [← stV_set hl (by omega) x]
  exact (h.set_ _ _).set_ _ _
end

/-- the table of states: row R of n pointers at block ks; its states in blocks of the call's own, from block B on -/
def RowAt (w : World) (B ks n : Nat) (T : Tab) : Prop :=
  ∃ R : Array Value, Blk w ks 81 R ∧ R.size = n ∧ ∀ j, j < n → match tg T j with
    | none => R[j]? = some (.pointer none)
    | some s => ∃ k, R[j]? = some (.pointer (some ⟨k, 0, none⟩)) ∧ B ≤ k ∧ Blk w k 80 (stV s)
theorem RowAt.ext {w w' : World} {B ks n : Nat} {T : Tab} (h : RowAt w B ks n T) (hx : Ext w w') : RowAt w' B ks n T := by
  obtain ⟨R, h1, h2, h3⟩ := h
  refine ⟨R, h1.ext hx, h2, fun j hj => ?_⟩
  have := h3 j hj
  cases ht : tg T j with
  | none => rw [ht] at this; exact this
  | some s =>
    rw [ht] at this
    obtain ⟨k, e1, e2, e3⟩ := this
    exact ⟨k, e1, e2, e3.ext hx⟩
/-- a state put: its block is one of the call's own -/
theorem RowAt.put {w : World} {B ks n k at_ : Nat} {T : Tab} {s : KSt} (h : RowAt w B ks n T) (hT : T.length = n) (hat : at_ < n) (hB : B ≤ k) (hk : Blk w k 80 (stV s)) :
    RowAt (w.setCell ⟨ks, at_, none⟩ (.pointer (some ⟨k, 0, none⟩))) B ks n (T.set at_ (some s)) := by
  obtain ⟨R, h1, h2, h3⟩ := h
  refine ⟨_, h1.set_ at_ _, by simpa using h2, fun j hj => ?_⟩
  have far : ∀ {k' : Nat} {u : KSt}, Blk w k' 80 (stV u) → Blk (w.setCell ⟨ks, at_, none⟩ (.pointer (some ⟨k, 0, none⟩))) k' 80 (stV u) := fun hb => hb.far (p := ⟨ks, at_, none⟩) (Blk.ne_ hb h1 (by decide)) _
  rw [tg_set]
  by_cases e : at_ = j
  · subst e
    rw [if_pos ⟨rfl, by omega⟩]
    exact ⟨k, by simp [h2, hat], hB, far hk⟩
  · rw [if_neg (by omega)]
    have := h3 j hj
    cases ht : tg T j with
    | none => rw [ht] at this; simpa [Array.getElem?_setIfInBounds, e] using this
    | some u =>
      rw [ht] at this
      obtain ⟨k', e1, e2, e3⟩ := this
      exact ⟨k', by simpa [Array.getElem?_setIfInBounds, e] using e1, e2, far e3⟩
theorem RowAt.far {w : World} {B ks n : Nat} {T : Tab} (h : RowAt w B ks n T) {p : Addr} {t : TypeId} {cs : Array Value} (hp : Blk w p.block t cs) (h1 : t ≠ 81) (h2 : t ≠ 80) (u : Value) : RowAt (w.setCell p u) B ks n T := by
  obtain ⟨R, e1, e2, e3⟩ := h
  refine ⟨R, e1.far (Blk.ne_ e1 hp (fun e => h1 e.symm)) u, e2, fun j hj => ?_⟩
  have := e3 j hj
  cases ht : tg T j with
  | none => rw [ht] at this; exact this
  | some s =>
    rw [ht] at this
    obtain ⟨k, f1, f2, f3⟩ := this
    exact ⟨k, f1, f2, f3.far (Blk.ne_ f3 hp (fun e => h2 e.symm)) u⟩
theorem RowAt.grown {w w' : World} {B ks n m : Nat} {T : Tab} {D : Nat} {v : Value} {xs : List Value} (h : RowAt w B ks n T) (hu : w.ownsRow D 3 1 v m xs) (hg : w.grownBy w' v.ownBlock) : RowAt w' B ks n T := by
  obtain ⟨R, e1, e2, e3⟩ := h
  refine ⟨R, e1.grown hg (own_ne hu e1 (by decide)), e2, fun j hj => ?_⟩
  have := e3 j hj
  cases ht : tg T j with
  | none => rw [ht] at this; exact this
  | some s =>
    rw [ht] at this
    obtain ⟨k, f1, f2, f3⟩ := this
    exact ⟨k, f1, f2, f3.grown hg (own_ne hu f3 (by decide))⟩

/-- the checker at block g, its table at block ks -/
structure CSt (w : World) (B g ks : Nat) (vR vC vK : Value) (p : LProg) (T : Tab) (wk : List Int) : Prop where
  box : Blk w g 75 #[vR, vC, .slice (some ⟨ks, 0, none⟩) p.code.length p.code.length, vK]
  row : RowAt w B ks p.code.length T
  wk : w.ownsRow B 3 1 vK wk.length (wk.map (Value.int .i64))
  tok : Tok p T
  hg : B ≤ g
  hk : B ≤ ks
section
variable {w w' : World} {B g ks : Nat} {vR vC vK : Value} {p : LProg} {T : Tab} {wk : List Int}
theorem CSt.ext (h : CSt w B g ks vR vC vK p T wk) (hx : Ext w w') : CSt w' B g ks vR vC vK p T wk := ⟨h.box.ext hx, h.row.ext hx, own_ext h.wk hx, h.tok, h.hg, h.hk⟩
theorem CSt.size (h : CSt w B g ks vR vC vK p T wk) : B ≤ w.heap.size := by have := h.box.lt; have := h.hg; omega
theorem CSt.cells (h : CSt w B g ks vR vC vK p T wk) : (w.cell? ⟨g, 0, none⟩ = some vR ∧ w.frozen? ⟨g, 0, none⟩ = false) ∧ (w.cell? ⟨g, 1, none⟩ = some vC ∧ w.frozen? ⟨g, 1, none⟩ = false) ∧
    (w.cell? ⟨g, 2, none⟩ = some (.slice (some ⟨ks, 0, none⟩) p.code.length p.code.length) ∧ w.frozen? ⟨g, 2, none⟩ = false) ∧ (w.cell? ⟨g, 3, none⟩ = some vK ∧ w.frozen? ⟨g, 3, none⟩ = false) := by
  refine ⟨⟨?_, h.box.frozen _⟩, ⟨?_, h.box.frozen _⟩, ⟨?_, h.box.frozen _⟩, ⟨?_, h.box.frozen _⟩⟩ <;> (rw [h.box.cell]; rfl)
/-- a state led to: put -/
theorem CSt.put (h : CSt w B g ks vR vC vK p T wk) {k at_ : Nat} {s : KSt} (hat : at_ < p.code.length) (hB : B ≤ k) (hk : Blk w k 80 (stV s)) (hs : Sok s) :
    CSt (w.setCell ⟨ks, at_, none⟩ (.pointer (some ⟨k, 0, none⟩))) B g ks vR vC vK p (T.set at_ (some s)) wk := by
  obtain ⟨R, r1, r2, r3⟩ := h.row
  refine ⟨h.box.far (p := ⟨ks, at_, none⟩) (Blk.ne_ h.box r1 (by decide)) _, h.row.put h.tok.len hat hB hk, own_far h.wk (own_ne h.wk r1 (by decide)) _, ⟨by simpa using h.tok.len, fun j u hu => ?_⟩, h.hg, h.hk⟩
  rw [tg_set] at hu
  split at hu
  · simp only [Option.some.injEq] at hu; subst hu; exact hs
  · exact h.tok.ok j u hu
/-- work more, or less: behind the append, and its store -/
theorem CSt.work (h : CSt w B g ks vR vC vK p T wk) {vK' : Value} {wk' : List Int} (hg : w.grownBy w' vK.ownBlock) (ho : w'.ownsRow B 3 1 vK' wk'.length (wk'.map (Value.int .i64))) :
    CSt (w'.setCell ⟨g, 3, none⟩ vK') B g ks vR vC vK' p T wk' := by
  have hb := h.box.grown hg (own_ne h.wk h.box (by decide))
  have hne : some g ≠ vK'.ownBlock := own_ne ho hb (by decide)
  exact ⟨hb.set_ 3 vK', (h.row.grown h.wk hg).far (p := ⟨g, 3, none⟩) hb (by decide) (by decide) _, own_far ho hne _, h.tok, h.hg, h.hk⟩
theorem CSt.row_at (h : CSt w B g ks vR vC vK p T wk) {j : Nat} (hj : j < p.code.length) : (tg T j = none → w.cell? ⟨ks, j, none⟩ = some (.pointer none) ∧ w.frozen? ⟨ks, j, none⟩ = false) ∧
    (∀ s, tg T j = some s → ∃ k, (w.cell? ⟨ks, j, none⟩ = some (.pointer (some ⟨k, 0, none⟩)) ∧ w.frozen? ⟨ks, j, none⟩ = false) ∧ B ≤ k ∧ Blk w k 80 (stV s)) := by
  obtain ⟨R, r1, r2, r3⟩ := h.row
  have := r3 j hj
  refine ⟨fun ht => ?_, fun s ht => ?_⟩
  · rw [ht] at this
    exact ⟨by rw [r1.cell, this], r1.frozen _⟩
  · rw [ht] at this
    obtain ⟨k, e1, e2, e3⟩ := this
    exact ⟨k, ⟨by rw [r1.cell, e1], r1.frozen _⟩, e2, e3⟩
end
/-- what a lead makes of the table, and of the work -/
def leadT (p : LProg) (T : Tab) (at_ : Nat) (s : KSt) : Tab := if p.code.length ≤ at_ then T else joinT T (at_, s)
def leadW (p : LProg) (T : Tab) (wk : List Int) (at_ : Nat) (s : KSt) : List Int :=
  if p.code.length ≤ at_ then wk else match tg T at_ with
    | none => wk ++ [(at_ : Int)]
    | some t => if sjoin s t = t then wk else wk ++ [(at_ : Int)]
end Go.Proofs.Yteiknefajlocoaa
/- Package known: walks. -/
namespace Go.Proofs.Yteiknefajlocoaa
open Go.ChangeShapes Go.WideShapes Go.ChangeAt Go.RowKit

theorem infoKnown : (Try.prog.info? 78).map (·.size) = some 2 := by kernel_rfl
theorem ret_k {a b : Int} {s t : Bool} (h1 : a = b) (h2 : s = t) : Ending.returned (.agg #[.int .i64 a, .bool s]) = .returned (.agg #[.int .i64 b, .bool t]) := by rw [h1, h2]

set_option maxHeartbeats 1000000 in
theorem norm_c (b : Int) (s : Bool) (w : World) :
    Calls Try.prog 123 #[.agg #[.int .i64 b, .bool s]] w fun e w' => e = .returned (.agg #[.int .i64 (nrm b), .bool s]) ∧ Ext w w' := by
  by_cases h : b < 0 ∨ 17 < b
  · have hn : nrm b = 17 := by unfold nrm; rw [if_pos h]
    have Hn := Lib.hid hn
    clear hn
    by_cases h0 : b < 0
    · go_enter Try.func123, Try.ntmps123
      go_wp2
      exact bodyPost_ret (v := .agg #[.int .i64 17, .bool s]) (by simp [results, Try.results123, go_sem]) rfl ⟨ret_k Hn.out.symm rfl, ((Ext.refl _).alloc _).alloc _⟩
    · have h1 : 17 < b := by omega
      clear h
      go_enter Try.func123, Try.ntmps123
      go_wp2
      exact bodyPost_ret (v := .agg #[.int .i64 17, .bool s]) (by simp [results, Try.results123, go_sem]) rfl ⟨ret_k Hn.out.symm rfl, ((Ext.refl _).alloc _).alloc _⟩
  · have hn : nrm b = b := by unfold nrm; rw [if_neg h]
    have Hn := Lib.hid hn
    have h0 : 0 ≤ b := by omega
    have h1 : b ≤ 17 := by omega
    clear hn h
    go_enter Try.func123, Try.ntmps123
    go_wp2
    exact bodyPost_ret (v := .agg #[.int .i64 b, .bool s]) (by simp [results, Try.results123, go_sem]) rfl ⟨ret_k Hn.out.symm rfl, ((Ext.refl _).alloc _).alloc _⟩

/-- three new blocks of two cells: what there is to know of them -/
theorem three_new (w : World) (T : TypeId) (a0 a1 b0 b1 c0 c1 : Value) : ∃ W g, w.heap.size = g ∧ ((w.alloc (.cells #[a0, a1] T)).alloc (.cells #[b0, b1] T)).alloc (.cells #[c0, c1] T) = W ∧ Ext w W ∧
    (W.cell? ⟨g, 0, none⟩ = some a0 ∧ W.frozen? ⟨g, 0, none⟩ = false) ∧ (W.cell? ⟨g, 1, none⟩ = some a1 ∧ W.frozen? ⟨g, 1, none⟩ = false) ∧
    (W.cell? ⟨g + 1, 0, none⟩ = some b0 ∧ W.frozen? ⟨g + 1, 0, none⟩ = false) ∧ (W.cell? ⟨g + 1, 1, none⟩ = some b1 ∧ W.frozen? ⟨g + 1, 1, none⟩ = false) ∧
    (W.cell? ⟨g + 1 + 1, 0, none⟩ = some c0 ∧ W.frozen? ⟨g + 1 + 1, 0, none⟩ = false) ∧ (W.cell? ⟨g + 1 + 1, 1, none⟩ = some c1 ∧ W.frozen? ⟨g + 1 + 1, 1, none⟩ = false) ∧ Blk W (g + 1 + 1) T #[c0, c1] := by
  refine ⟨_, _, rfl, rfl, (((Ext.refl _).alloc _).alloc _).alloc _, ?_⟩
  have h0 := ((Blk.new w T #[a0, a1]).alloc (.cells #[b0, b1] T)).alloc (.cells #[c0, c1] T)
  have h1 := (Blk.new (w.alloc (.cells #[a0, a1] T)) T #[b0, b1]).alloc (.cells #[c0, c1] T)
  have h2 := Blk.new ((w.alloc (.cells #[a0, a1] T)).alloc (.cells #[b0, b1] T)) T #[c0, c1]
  simp only [World.size_alloc] at h1 h2
  exact ⟨⟨by rw [h0.cell]; rfl, h0.frozen 0⟩, ⟨by rw [h0.cell]; rfl, h0.frozen 1⟩, ⟨by rw [h1.cell]; rfl, h1.frozen 0⟩, ⟨by rw [h1.cell]; rfl, h1.frozen 1⟩, ⟨by rw [h2.cell]; rfl, h2.frozen 0⟩, ⟨by rw [h2.cell]; rfl, h2.frozen 1⟩, h2⟩

/-- what stands behind 'a, b = norm(a), norm(b)' -/
def Normed (w wx : World) (g : Nat) (b c : Int) (s t : Bool) : Prop :=
  Ext w wx ∧ (wx.cell? ⟨g, 0, none⟩ = some (.int .i64 (nrm b)) ∧ wx.frozen? ⟨g, 0, none⟩ = false) ∧ (wx.cell? ⟨g, 1, none⟩ = some (.bool s) ∧ wx.frozen? ⟨g, 1, none⟩ = false) ∧
    (wx.cell? ⟨g + 1, 0, none⟩ = some (.int .i64 (nrm c)) ∧ wx.frozen? ⟨g + 1, 0, none⟩ = false) ∧ (wx.cell? ⟨g + 1, 1, none⟩ = some (.bool t) ∧ wx.frozen? ⟨g + 1, 1, none⟩ = false) ∧
    (wx.cell? ⟨g + 1 + 1, 0, none⟩ = some (.int .i64 0) ∧ wx.frozen? ⟨g + 1 + 1, 0, none⟩ = false) ∧ (wx.cell? ⟨g + 1 + 1, 1, none⟩ = some (.bool false) ∧ wx.frozen? ⟨g + 1 + 1, 1, none⟩ = false)
theorem normed {w w1 : World} {g : Nat} {b c x y : Int} {s s' t t' : Bool} (hg : w.heap.size ≤ g) (hE : Ext w w1) (p0 : w1.cell? ⟨g, 0, none⟩ = some (.int .i64 x) ∧ w1.frozen? ⟨g, 0, none⟩ = false) (p1 : w1.cell? ⟨g, 1, none⟩ = some (.bool s') ∧ w1.frozen? ⟨g, 1, none⟩ = false)
    (p2 : w1.cell? ⟨g + 1, 0, none⟩ = some (.int .i64 y) ∧ w1.frozen? ⟨g + 1, 0, none⟩ = false) (p3 : w1.cell? ⟨g + 1, 1, none⟩ = some (.bool t') ∧ w1.frozen? ⟨g + 1, 1, none⟩ = false)
    (p4 : w1.cell? ⟨g + 1 + 1, 0, none⟩ = some (.int .i64 0) ∧ w1.frozen? ⟨g + 1 + 1, 0, none⟩ = false) (p5 : w1.cell? ⟨g + 1 + 1, 1, none⟩ = some (.bool false) ∧ w1.frozen? ⟨g + 1 + 1, 1, none⟩ = false) :
    Normed w ((((w1.setCell ⟨g, 0, none⟩ (.int .i64 (nrm b))).setCell ⟨g, 1, none⟩ (.bool s)).setCell ⟨g + 1, 0, none⟩ (.int .i64 (nrm c))).setCell ⟨g + 1, 1, none⟩ (.bool t)) g b c s t := by
  refine ⟨(((hE.setCell hg _).setCell hg _).setCell (by simp; omega) _).setCell (by simp; omega) _, ?_, ?_, ?_, ?_, ?_, ?_⟩
  · exact kept_set (by simp) (kept_set (by simp) (kept_set (by simp) (set_same p0)))
  · exact kept_set (by simp) (kept_set (by simp) (set_same (kept_set (by simp) p1)))
  · exact kept_set (by simp) (set_same (kept_set (by simp) (kept_set (by simp) p2)))
  · exact set_same (kept_set (by simp) (kept_set (by simp) (kept_set (by simp) p3)))
  · exact kept_set (by simp) (kept_set (by simp) (kept_set (by simp) (kept_set (by simp) p4)))
  · exact kept_set (by simp) (kept_set (by simp) (kept_set (by simp) (kept_set (by simp) p5)))

set_option maxHeartbeats 2000000 in
theorem join_c (b c : Int) (s t : Bool) (w : World) :
    Calls Try.prog 87 #[.agg #[.int .i64 b, .bool s], .agg #[.int .i64 c, .bool t]] w fun e w' => e = .returned (.agg #[.int .i64 (max (nrm b) (nrm c)), .bool (s || t)]) ∧ Ext w w' := by
  go_enter Try.func87, Try.ntmps87
  go_wp2
  obtain ⟨W, g, hg, hW, hE, p0, p1, p2, p3, p4, p5, _⟩ := three_new w 78 (.int .i64 b) (.bool s) (.int .i64 c) (.bool t) (.int .i64 0) (.bool false)
  rw [hW, hg]
  have hgs : w.heap.size ≤ g := by omega
  clear hW hg
  go_cut [] (fun wx => Normed w wx g b c s t)
  case first =>
    go_region_with (go_at_call 123; refine (norm_c _ _ _).mono ?_; rintro e w1 ⟨rfl, hx⟩; have p0 := kept2 hx p0; have p1 := kept2 hx p1; have p2 := kept2 hx p2; have p3 := kept2 hx p3; have p4 := kept2 hx p4; have p5 := kept2 hx p5)
    all_goals (go_wp2_with fail; go_meet; refine normed hgs ?_ p0 p1 p2 p3 p4 p5)
    all_goals (repeat' first | (with_reducible exact Ext.refl _) | (with_reducible assumption) | (with_reducible refine Ext.drew ?_) | (with_reducible refine Ext.drewN ?_ _) | (with_reducible refine Ext.alloc ?_ _) | (with_reducible refine Ext.setCell ?_ (by first | (simp; done) | (simp; omega) | omega) _) | (with_reducible refine Ext.trans ?_ (by with_reducible assumption)))
  case rest =>
    obtain ⟨hX, q0, q1, q2, q3, q4, q5⟩ := hcut
    have hgx := hX.size
    cases s
    all_goals go_wp2
    all_goals refine bodyPost_ret (results_two (by repeat' first | (with_reducible exact some_of q4) | (with_reducible refine some_set ?_)) (by repeat' first | (with_reducible exact some_of q5) | (with_reducible refine some_set ?_)) rfl _ rfl Try.underlying78 rfl infoKnown) rfl ⟨ret_k (by omega) rfl, ?_⟩
    all_goals (repeat' first | (with_reducible exact Ext.refl _) | (with_reducible assumption) | (with_reducible refine Ext.drew ?_) | (with_reducible refine Ext.drewN ?_ _) | (with_reducible refine Ext.alloc ?_ _) | (with_reducible refine Ext.setCell ?_ (by first | (simp; done) | (simp; omega) | omega) _) | (with_reducible refine Ext.trans ?_ (by with_reducible assumption)))

set_option maxHeartbeats 2000000 in
theorem less_c (b c : Int) (s t : Bool) (w : World) :
    Calls Try.prog 91 #[.agg #[.int .i64 b, .bool s], .agg #[.int .i64 c, .bool t]] w fun e w' => e = .returned (.agg #[.int .i64 (min (nrm b) (nrm c)), .bool s]) ∧ Ext w w' := by
  go_enter Try.func91, Try.ntmps91
  go_wp2
  obtain ⟨W, g, hg, hW, hE, p0, p1, p2, p3, p4, p5, _⟩ := three_new w 78 (.int .i64 b) (.bool s) (.int .i64 c) (.bool t) (.int .i64 0) (.bool false)
  rw [hW, hg]
  have hgs : w.heap.size ≤ g := by omega
  clear hW hg
  go_cut [] (fun wx => Normed w wx g b c s t)
  case first =>
    go_region_with (go_at_call 123; refine (norm_c _ _ _).mono ?_; rintro e w1 ⟨rfl, hx⟩; have p0 := kept2 hx p0; have p1 := kept2 hx p1; have p2 := kept2 hx p2; have p3 := kept2 hx p3; have p4 := kept2 hx p4; have p5 := kept2 hx p5)
    all_goals (go_wp2_with fail; go_meet; refine normed hgs ?_ p0 p1 p2 p3 p4 p5)
    all_goals (repeat' first | (with_reducible exact Ext.refl _) | (with_reducible assumption) | (with_reducible refine Ext.drew ?_) | (with_reducible refine Ext.drewN ?_ _) | (with_reducible refine Ext.alloc ?_ _) | (with_reducible refine Ext.setCell ?_ (by first | (simp; done) | (simp; omega) | omega) _) | (with_reducible refine Ext.trans ?_ (by with_reducible assumption)))
  case rest =>
    obtain ⟨hX, q0, q1, q2, q3, q4, q5⟩ := hcut
    have hgx := hX.size
    go_wp2
    all_goals refine bodyPost_ret (results_two (by repeat' first | (with_reducible exact some_of q4) | (with_reducible refine some_set ?_)) (by repeat' first | (with_reducible exact some_of q5) | (with_reducible refine some_set ?_)) rfl _ rfl Try.underlying78 rfl infoKnown) rfl ⟨ret_k (by omega) rfl, ?_⟩
    all_goals (repeat' first | (with_reducible exact Ext.refl _) | (with_reducible assumption) | (with_reducible refine Ext.drew ?_) | (with_reducible refine Ext.drewN ?_ _) | (with_reducible refine Ext.alloc ?_ _) | (with_reducible refine Ext.setCell ?_ (by first | (simp; done) | (simp; omega) | omega) _) | (with_reducible refine Ext.trans ?_ (by with_reducible assumption)))
end Go.Proofs.Yteiknefajlocoaa
/- Walk of known.Of, by itself. -/
namespace Go.Proofs.Yteiknefajlocoaa
open Go.ChangeShapes Go.WideShapes Go.ChangeAt Go.RowKit

set_option maxHeartbeats 1000000 in
theorem kOf_c (n : Int) (w : World) :
    Calls Try.prog 89 #[.int .i64 n] w fun e w' => e = .returned (.agg #[.int .i64 (kof n), .bool false]) ∧ Ext w w' := by
  have Hk : Hid (kof n = if n < 0 ∨ 65536 ≤ n then (17 : Int) else ((Lib.bitLen n.toNat : Nat) : Int)) := rfl
  by_cases h0 : n < 0
  · go_enter Try.func89, Try.ntmps89
    go_wp2
    exact bodyPost_ret (v := .agg #[.int .i64 17, .bool false]) (by simp [results, Try.results89, go_sem]) rfl ⟨ret_k (by rw [Hk.out, if_pos (.inl h0)]) rfl, (Ext.refl _).alloc _⟩
  by_cases h1 : 65536 ≤ n
  · go_enter Try.func89, Try.ntmps89
    go_wp2
    exact bodyPost_ret (v := .agg #[.int .i64 17, .bool false]) (by simp [results, Try.results89, go_sem]) rfl ⟨ret_k (by rw [Hk.out, if_pos (.inr h1)]) rfl, (Ext.refl _).alloc _⟩
  have hu : IntKind.u64.wrap n = n := IntWalk.u64_in n (by omega)
  go_enter Try.func89, Try.ntmps89
  go_wp2_with (go_at_call 124; refine (Try.bits_Len64 n _ (by omega) (by omega)).mono ?_; rintro e w' ⟨rfl, rfl⟩)
  exact bodyPost_ret (v := .agg #[.int .i64 (Lib.bitLen n.toNat : Nat), .bool false]) (by simp [results, Try.results89, go_sem]) rfl ⟨ret_k (by rw [Hk.out, if_neg (by omega)]) rfl, (Ext.refl _).alloc _⟩
end Go.Proofs.Yteiknefajlocoaa
/- known.Op: the walk. -/
namespace Go.Proofs.Yteiknefajlocoaa
open Go.ChangeShapes Go.WideShapes Go.ChangeAt Go.RowKit

set_option maxHeartbeats 8000000 in
theorem kOp_c (op b c : Int) (s t : Bool) (w : World) :
    Calls Try.prog 92 #[.int .i64 op, .agg #[.int .i64 b, .bool s], .agg #[.int .i64 c, .bool t]] w fun e w' => e = .returned (.agg #[.int .i64 (kop op (nrm b) (nrm c)), .bool (s || t)]) ∧ Ext w w' := by
  obtain ⟨b0, b1⟩ := nrm_bd b
  obtain ⟨c0, c1⟩ := nrm_bd c
  go_enter Try.func92, Try.ntmps92
  go_wp2
  obtain ⟨W, g, hg, hW, hE, p0, p1, p2, p3, p4, p5, _⟩ := three_new w 78 (.int .i64 b) (.bool s) (.int .i64 c) (.bool t) (.int .i64 0) (.bool false)
  rw [hW, hg]
  have hgs : w.heap.size ≤ g := by omega
  clear hW hg
  go_cut [] (fun wx => Normed w wx g b c s t)
  case first =>
    go_region_with (go_at_call 123; refine (norm_c _ _ _).mono ?_; rintro e w1 ⟨rfl, hx⟩; have p0 := kept2 hx p0; have p1 := kept2 hx p1; have p2 := kept2 hx p2; have p3 := kept2 hx p3; have p4 := kept2 hx p4; have p5 := kept2 hx p5)
    all_goals (go_wp2_with fail; go_meet; refine normed hgs ?_ p0 p1 p2 p3 p4 p5)
    all_goals (repeat' first | (with_reducible exact Ext.refl _) | (with_reducible assumption) | (with_reducible refine Ext.drew ?_) | (with_reducible refine Ext.drewN ?_ _) | (with_reducible refine Ext.alloc ?_ _) | (with_reducible refine Ext.setCell ?_ (by first | (simp; done) | (simp; omega) | omega) _) | (with_reducible refine Ext.trans ?_ (by with_reducible assumption)))
  case rest =>
    obtain ⟨hX, q0, q1, q2, q3, q4, q5⟩ := hcut
    have hgx := hX.size
    clear hE p0 p1 p2 p3 p4 p5
    by_cases h : op = 1 ∨ op = 3 ∨ op = 4 ∨ op = 5 ∨ op = 6 ∨ op = 8 ∨ op = 9 ∨ op = 10
    · rcases h with rfl | rfl | rfl | rfl | rfl | rfl | rfl | rfl
      all_goals cases s
      all_goals go_wp2
      all_goals refine bodyPost_ret (results_two (by repeat' first | (with_reducible exact some_of q4) | (with_reducible refine some_set ?_)) (by repeat' first | (with_reducible exact some_of q5) | (with_reducible refine some_set ?_)) rfl _ rfl Try.underlying78 rfl infoKnown) rfl ⟨ret_k (by first | (simp [kop, kopN] <;> omega) | (simp only [beq_iff_eq, beq_eq_false_iff_ne, ne_eq] at *; simp [kop, kopN] <;> omega)) rfl, ?_⟩
      all_goals (repeat' first | (with_reducible exact Ext.refl _) | (with_reducible assumption) | (with_reducible refine Ext.drew ?_) | (with_reducible refine Ext.drewN ?_ _) | (with_reducible refine Ext.alloc ?_ _) | (with_reducible refine Ext.setCell ?_ (by first | (simp; done) | (simp; omega) | omega) _) | (with_reducible refine Ext.trans ?_ (by with_reducible assumption)))
    · have Hk := Lib.hid (kopN_other (op := op) (nrm b) (nrm c) (by omega) (by omega) (by omega) (by omega) (by omega) (by omega) (by omega) (by omega))
      have q1 : (op == 1) = false := by rw [beq_eq_false_iff_ne]; omega
      have q3' : (op == 3) = false := by rw [beq_eq_false_iff_ne]; omega
      have q4' : (op == 4) = false := by rw [beq_eq_false_iff_ne]; omega
      have q5' : (op == 5) = false := by rw [beq_eq_false_iff_ne]; omega
      have q6 : (op == 6) = false := by rw [beq_eq_false_iff_ne]; omega
      have q8 : (op == 8) = false := by rw [beq_eq_false_iff_ne]; omega
      have q9 : (op == 9) = false := by rw [beq_eq_false_iff_ne]; omega
      have q10 : (op == 10) = false := by rw [beq_eq_false_iff_ne]; omega
      clear h
      cases s
      all_goals go_wp2
      all_goals refine bodyPost_ret (results_two (by repeat' first | (with_reducible exact some_of q4) | (with_reducible refine some_set ?_)) (by repeat' first | (with_reducible exact some_of q5) | (with_reducible refine some_set ?_)) rfl _ rfl Try.underlying78 rfl infoKnown) rfl ⟨ret_k (by unfold kop; rw [Hk.out]; rfl) rfl, ?_⟩
      all_goals (repeat' first | (with_reducible exact Ext.refl _) | (with_reducible assumption) | (with_reducible refine Ext.drew ?_) | (with_reducible refine Ext.drewN ?_ _) | (with_reducible refine Ext.alloc ?_ _) | (with_reducible refine Ext.setCell ?_ (by first | (simp; done) | (simp; omega) | omega) _) | (with_reducible refine Ext.trans ?_ (by with_reducible assumption)))
end Go.Proofs.Yteiknefajlocoaa
/- Walks of the checker's sum and lead. -/
namespace Go.Proofs.Yteiknefajlocoaa
open Go.ChangeShapes Go.WideShapes Go.ChangeAt Go.RowKit
set_option linter.unusedVariables false
set_option linter.unusedSimpArgs false

set_option maxHeartbeats 2000000 in
theorem sum_c (k : LKn) (n : Int) (w : World) :
    Calls Try.prog 90 #[knV k, .int .i64 n] w fun e w' => e = .returned (knV (ksum k n)) ∧ Ext w w' := by
  obtain ⟨b, sc⟩ := k
  unfold knV
  simp only
  by_cases hn : n < 0
  · have Hs : Hid (ksum ⟨b, sc⟩ n = ⟨17, sc⟩) := Lib.hid (by simp [ksum, hn])
    go_enter Try.func90, Try.ntmps90
    go_wp2_with fail
    rw [Hs.out]
    have hb := (Blk.new (w.alloc (.cells #[.int .i64 b, .bool sc] 78)) 78 #[.int .i64 17, .bool sc])
    rw [World.size_alloc] at hb
    exact bodyPost_ret (results_blk hb rfl _ rfl Try.underlying78 rfl infoKnown) rfl ⟨rfl, ((Ext.refl _).alloc _).alloc _⟩
  · have Hs : Hid (ksum ⟨b, sc⟩ n = ⟨kop 1 (nrm b) (nrm (kof n)), sc⟩) := Lib.hid (by simp [ksum, hn, kopK, kofK])
    go_enter Try.func90, Try.ntmps90
    go_upto_region 3 with fail
    obtain ⟨W, g, hg, hW, hx, bA, bB⟩ := blocks2 w #[.int .i64 b, .bool sc] #[.int .i64 0, .bool false] 78 78
    rw [hW, hg]
    have X := Lib.hid hx
    have hgw : w.heap.size ≤ g + 1 := by omega
    have k0 : ∀ Wx, Ext W Wx → Wx.cell? ⟨g, 0, none⟩ = some (.int .i64 b) := fun _ h => h.kept (by rw [bA.cell]; rfl)
    have k1 : ∀ Wx, Ext W Wx → Wx.cell? ⟨g, 1, none⟩ = some (.bool sc) := fun _ h => h.kept (by rw [bA.cell]; rfl)
    clear hW hg hx bA
    refine region_calm 4 (by kernel_rfl) (by kernel_rfl) ?_
    simp only [List.take_succ_cons, List.take_zero, List.drop_succ_cons, List.drop_zero]
    repeat (first | (refine calm_fresh ?_ ?_ (fun wc hE => ?_) ?_; (decide); rfl; (focus (go_simp; done)); go_simp) | (refine calm_value ?_ ?_ ?_; (decide); (first | rfl | (focus (go_simp; done))); apply Exists.intro; refine ⟨fun wc hE => ?_, ?_⟩; (go_simp; exact rfl); go_simp) | (refine calm_call ?_ ?_ ?_; (decide); (first | rfl | (focus (go_simp; done))); apply Exists.intro; refine ⟨fun wc hE => ?_, ?_⟩; (go_simp; (first | (with_reducible exact calm_enter (kOf_c n _)) | (with_reducible exact calm_enter (kOp_c 1 b (kof n) sc false _)))); go_simp) | (refine calm_skip ?_ ?_ ?_; (decide); (focus (go_simp; done)); go_simp))
    refine calm_nil ?_
    intro wx hx
    have bB := bB.ext hx
    have X := Lib.hid (X.out.trans hx)
    have c0 : wx.cell? ⟨g + 1, 0, none⟩ = some (.int .i64 0) ∧ wx.frozen? ⟨g + 1, 0, none⟩ = false := ⟨by rw [bB.cell]; rfl, bB.frozen _⟩
    have c1 : wx.cell? ⟨g + 1, 1, none⟩ = some (.bool false) ∧ wx.frozen? ⟨g + 1, 1, none⟩ = false := ⟨by rw [bB.cell]; rfl, bB.frozen _⟩
    clear hx k0 k1
    go_wp2
    rw [Hs.out]
    have hb := (bB.set_ 0 (.int .i64 (kop 1 (nrm b) (nrm (kof n))))).set_ 1 (.bool sc)
    first
      | exact bodyPost_ret (results_blk hb rfl _ rfl Try.underlying78 rfl infoKnown) rfl ⟨rfl, (X.out.setCell hgw _).setCell hgw _⟩

theorem index_st (W : World) (g : Nat) (i : Int) (h0 : 0 ≤ i) (h1 : i < 8) :
    (Instr.indexAt 80 (.pointer (some ⟨g, 0, none⟩)) (.int .i64 i)).run Try.prog W = .ok (.pointer (some ⟨g, i.toNat * 2, none⟩)) W := by
  have hs : (Try.prog.info? 78).map (·.size) = some 2 := by kernel_rfl
  simp [Instr.indexAt, run_underlying Try.underlying80, asIntOf, Instr.sureAddr, h0, h1]
  have := addr_add g 0 (i.toNat * 2)
  simpa using this
theorem index_sts (W : World) (k n cap : Nat) (i : Int) (h0 : 0 ≤ i) (h1 : i < n) :
    (Instr.indexAt 73 (.slice (some ⟨k, 0, none⟩) n cap) (.int .i64 i)).run Try.prog W = .ok (.pointer (some ⟨k, i.toNat, none⟩)) W := by
  have hs : (Try.prog.info? 81).map (·.size) = some 1 := by kernel_rfl
  simp [Instr.indexAt, run_underlying Try.underlying73, asIntOf, h0, h1]
  have := addr_add k 0 i.toNat
  simpa using this
end Go.Proofs.Yteiknefajlocoaa
/- Whole states loaded in regions that draw their order. -/
namespace Go.Proofs.Yteiknefajlocoaa
open Go.ChangeShapes Go.WideShapes Go.ChangeAt Go.RowKit
theorem infoState' : (Try.prog.info? 80).map (·.size) = some 16 := by kernel_rfl
theorem exec_load_st {o : Oper} {a : Act} {x : Operand} {w : World} {g : Nat} {s : KSt} (ho : o.op = .load 80 x) (hx : a.eval x = .pointer (some ⟨g, 0, none⟩)) (hb : Blk w g 80 (stV s)) (hl : s.length = 8) :
    (execOp a.eval o).run Try.prog w = .ok (.value (.agg (stV s))) w := by
  have h := run_loadVar_mid (P := Try.prog) w g 0 80 (stV s).toList _ (hb.range 0 _ (fun j v hv => by simpa using hv)) Try.underlying80 rfl (by rw [Array.length_toList, stV_size hl]; exact infoState')
  unfold execOp
  simp only [ho, hx, Instr.loadAt, Instr.sureAddr, Sem.run_bind, Sem.run_pure, Result.andThen_ok, h, Array.toArray_toList]
section
variable {ops : Array Oper} {W : World} {i0 k : Nat} {mk : Nat → Value} {T : TypeId} {cs : Array Value} {Qa : Act → Prop} {o : Oper} {rest : List Oper} {a : Act} {g : Nat} {s : KSt} {hs : List Nat}
theorem calm_load_st (hk : k ≠ i0) (hw : Region.wanted o (yielded ops a.tmps) = true) (ho : ∃ x, o.op = .load 80 x ∧ a.eval x = .pointer (some ⟨g, 0, none⟩)) (hb : Blk W g 80 (stV s)) (hl : s.length = 8)
    (h : calmAll Try.prog ops W i0 mk T cs Qa (k + 1) rest (a.put o.dst (.agg (stV s)))) : calmAll Try.prog ops W i0 mk T cs Qa k (o :: rest) a :=
  by
  obtain ⟨x, ho, hx⟩ := ho
  exact calm_value hk hw ⟨_, fun _ hE => exec_load_st ho hx (hb.ext hE) hl, h⟩
end
end Go.Proofs.Yteiknefajlocoaa
