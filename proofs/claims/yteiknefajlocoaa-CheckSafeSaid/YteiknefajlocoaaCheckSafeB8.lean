/- Laid together from: Seq1, Float, Ck1, Known, Shelf, KOf. -/
import Derived.Test.YteiknefajlocoaaCheckSafeB7
import Derived.Test.YteiknefajlocoaaCheckSafeB2
import Derived.Test.YteiknefajlocoaaCheckSafeB4
import Derived.Test.YteiknefajlocoaaCheckSafeB6
import Derived.Test.YteiknefajlocoaaCheckSafeB1
import Derived.Deep.RegionWith
import Derived.Deep.DeepCutAuto
import Derived.Shelf.Strconv.Itoa0
import Derived.Test.YteiknefajlocoaaProg

/- The program's running machine in memory: what each of its writes does to it. -/
namespace Go.Proofs.Yteiknefajlocoaa
open Go.ChangeShapes Go.WideShapes Go.ChangeAt Go.RowKit
set_option linter.unusedVariables false
set_option linter.unusedSimpArgs false

/-- of what was there only blocks of S may have turned -/
structure Turn (S : Nat → Prop) (w w' : World) : Prop where
  os : w'.os = w.os
  tape : w'.tape = w.tape
  output : w'.output = w.output
  size : w.heap.size ≤ w'.heap.size
  block : ∀ j, j < w.heap.size → ¬ S j → w'.heap[j]? = w.heap[j]?
section
variable {S S' : Nat → Prop} {w w' w'' : World}
theorem Turn.ofExt (h : Ext w w') : Turn S w w' := ⟨h.os, h.tape, h.output, h.size, fun j hj _ => Below.block h j hj⟩
theorem Turn.refl (w : World) : Turn S w w := Turn.ofExt (Ext.refl w)
theorem Turn.trans (h : Turn S w w') (k : Turn S' w' w'') (hs : ∀ j, j < w.heap.size → S' j → S j) : Turn S w w'' :=
  ⟨k.os.trans h.os, k.tape.trans h.tape, k.output.trans h.output, Nat.le_trans h.size k.size, fun j hj hn => (k.block j (Nat.lt_of_lt_of_le hj h.size) (fun e => hn (hs j hj e))).trans (h.block j hj hn)⟩
theorem Turn.ext (h : Turn S w w') (k : Ext w' w'') : Turn S w w'' := h.trans (Turn.ofExt (S := S) k) (fun _ _ e => e)
theorem Turn.grown {row : Option Nat} (h : w.grownBy w' row) : Turn (fun j => row = some j) w w' := ⟨h.os, h.tape, h.output, h.size, fun j hj hn => h.block j hj (fun e => hn e.symm)⟩
theorem Turn.set (w : World) (p : Addr) (u : Value) : Turn (fun j => j = p.block) w (w.setCell p u) := ⟨rfl, rfl, rfl, by simp [World.setCell], fun j hj hn => Below.heap_setCell w p u j hn⟩
theorem Turn.mono (h : Turn S w w') (hs : ∀ j, S j → S' j) : Turn S' w w' := ⟨h.os, h.tape, h.output, h.size, fun j hj hn => h.block j hj (fun e => hn (hs j e))⟩
theorem Turn.below {B : Nat} (h : Turn S w w') (hB : B ≤ w.heap.size) (hs : ∀ j, S j → B ≤ j) : Below B w w' :=
  ⟨h.os, h.tape, h.output, h.size, fun j hj => h.block j (Nat.lt_of_lt_of_le hj hB) (fun e => by have := hs j e; omega)⟩
theorem Blk.turn {g : Nat} {t : TypeId} {cs : Array Value} (h : Blk w g t cs) (ht : Turn S w w') (hn : ¬ S g) : Blk w' g t cs := (ht.block g h.lt hn).trans h
theorem own_turn {base : Nat} {e : TypeId} {size n : Nat} {v : Value} {xs : List Value} (h : w.ownsRow base e size v n xs) (ht : Turn S w w') (hn : ∀ k, v.ownBlock = some k → ¬ S k) : w'.ownsRow base e size v n xs := by
  refine ⟨h.1, ?_⟩
  rcases h.2 with h | ⟨g, cap, cur, rfl, h1, h2, h3⟩
  · exact .inl h
  · exact .inr ⟨g, cap, cur, rfl, h1, (ht.block g (Array.getElem?_eq_some_iff.1 h2).1 (hn g rfl)).trans h2, h3⟩
end

/-- the cells of a machine -/
def machL (vR vC : Value) (fin value : Int) (steps : Nat) (vS vM : Value) (regs : List Int) (vW : Value) (at_ : Nat) (vB : Value) : List Value :=
  [vR, vC, .int .i64 fin, .int .i64 value, .int .i64 steps, vS, vM] ++ (regs.map (Value.int .i64) ++ [vW, .int .i64 at_, vB])
section
variable {vR vC vS vM vW vB u : Value} {fin value x : Int} {steps at_ : Nat} {regs : List Int}
theorem mach_size (h : regs.length = 10) : (machL vR vC fin value steps vS vM regs vW at_ vB).toArray.size = 20 := by simp [machL, h]
theorem mach_reg (h : regs.length = 10) {a : Int} (ha : a.toNat < 10) : (machL vR vC fin value steps vS vM regs vW at_ vB).toArray[7 + a.toNat]? = some (.int .i64 (rg regs a)) := by
  have h2 : a.toNat < regs.length := by omega
  rw [List.getElem?_toArray]
  unfold machL
  rw [List.getElem?_append_right (by simp), List.getElem?_append_left (by simp; omega)]
  simp [rg, h2]
theorem mach_set_reg (h : regs.length = 10) {a : Int} (ha : a.toNat < 10) : (machL vR vC fin value steps vS vM regs vW at_ vB).toArray.setIfInBounds (7 + a.toNat) (.int .i64 x) = (machL vR vC fin value steps vS vM (rset regs a x) vW at_ vB).toArray := by
  have h2 : a.toNat < (regs.map (Value.int .i64)).length := by simp; omega
  rw [List.setIfInBounds_toArray]
  unfold machL rset
  rw [List.set_append_right _ _ (by simp), List.set_append_left _ _ (by simp; omega), List.map_set]
  simp
theorem mach_set_fin : (machL vR vC fin value steps vS vM regs vW at_ vB).toArray.setIfInBounds 2 (.int .i64 x) = (machL vR vC x value steps vS vM regs vW at_ vB).toArray := by simp [machL]
theorem mach_set_value : (machL vR vC fin value steps vS vM regs vW at_ vB).toArray.setIfInBounds 3 (.int .i64 x) = (machL vR vC fin x steps vS vM regs vW at_ vB).toArray := by simp [machL]
theorem mach_set_steps {k : Nat} : (machL vR vC fin value steps vS vM regs vW at_ vB).toArray.setIfInBounds 4 (.int .i64 (k : Int)) = (machL vR vC fin value k vS vM regs vW at_ vB).toArray := by simp [machL]
theorem mach_set_seen : (machL vR vC fin value steps vS vM regs vW at_ vB).toArray.setIfInBounds 5 u = (machL vR vC fin value steps u vM regs vW at_ vB).toArray := by simp [machL]
theorem mach_set_mem : (machL vR vC fin value steps vS vM regs vW at_ vB).toArray.setIfInBounds 6 u = (machL vR vC fin value steps vS u regs vW at_ vB).toArray := by simp [machL]
theorem mach_set_words (h : regs.length = 10) : (machL vR vC fin value steps vS vM regs vW at_ vB).toArray.setIfInBounds 17 u = (machL vR vC fin value steps vS vM regs u at_ vB).toArray := by simp [machL, List.set_append, h]
theorem mach_set_at (h : regs.length = 10) {k : Nat} : (machL vR vC fin value steps vS vM regs vW at_ vB).toArray.setIfInBounds 18 (.int .i64 (k : Int)) = (machL vR vC fin value steps vS vM regs vW k vB).toArray := by simp [machL, List.set_append, h]
theorem mach_set_bases (h : regs.length = 10) : (machL vR vC fin value steps vS vM regs vW at_ vB).toArray.setIfInBounds 19 u = (machL vR vC fin value steps vS vM regs vW at_ u).toArray := by simp [machL, List.set_append, h]
end

/-- a machine at block g: its rows are of the call's own, from block B on -/
structure MSt (w : World) (B g : Nat) (vR vC vM vB vS vW : Value) (bases : List Int) (M : Mach) : Prop where
  box : Blk w g 110 (machL vR vC M.fin M.value M.steps vS vM M.regs vW M.at_ vB).toArray
  sn : w.ownsRow B 98 3 vS M.seen.length (M.seen.flatMap seeCells)
  ws : w.ownsRow B 2 1 vW M.words.length (M.words.map (Value.int .i64))
  bs : w.ownsRow B 3 1 vB bases.length (bases.map (Value.int .i64))
  len : M.regs.length = 10
  hg : B ≤ g
section
variable {w w' : World} {B g : Nat} {vR vC vM vB vS vW : Value} {bases : List Int} {M : Mach}
theorem MSt.size (h : MSt w B g vR vC vM vB vS vW bases M) : B ≤ w.heap.size := by have := h.box.lt; have := h.hg; omega
theorem MSt.ext (h : MSt w B g vR vC vM vB vS vW bases M) (hx : Ext w w') : MSt w' B g vR vC vM vB vS vW bases M :=
  ⟨h.box.ext hx, own_ext h.sn hx, own_ext h.ws hx, own_ext h.bs hx, h.len, h.hg⟩
theorem MSt.gs (h : MSt w B g vR vC vM vB vS vW bases M) : some g ≠ vS.ownBlock := own_ne h.sn h.box (by decide)
theorem MSt.gw (h : MSt w B g vR vC vM vB vS vW bases M) : some g ≠ vW.ownBlock := own_ne h.ws h.box (by decide)
theorem MSt.gb (h : MSt w B g vR vC vM vB vS vW bases M) : some g ≠ vB.ownBlock := own_ne h.bs h.box (by decide)
/-- cells of its box put: what they hold now -/
theorem MSt.put (h : MSt w B g vR vC vM vB vS vW bases M) (i : Nat) (u : Value) {M' : Mach} (h1 : M'.seen = M.seen) (h2 : M'.words = M.words) (h3 : M'.regs.length = 10)
    (hc : (machL vR vC M.fin M.value M.steps vS vM M.regs vW M.at_ vB).toArray.setIfInBounds i u = (machL vR vC M'.fin M'.value M'.steps vS vM M'.regs vW M'.at_ vB).toArray) :
    MSt (w.setCell ⟨g, i, none⟩ u) B g vR vC vM vB vS vW bases M' :=
  ⟨by rw [← hc]; exact h.box.set_ i u, by rw [h1]; exact own_far h.sn h.gs u, by rw [h2]; exact own_far h.ws h.gw u, own_far h.bs h.gb u, h3, h.hg⟩
theorem MSt.fin_ (h : MSt w B g vR vC vM vB vS vW bases M) (x : Int) : MSt (w.setCell ⟨g, 2, none⟩ (.int .i64 x)) B g vR vC vM vB vS vW bases { M with fin := x } := h.put 2 _ rfl rfl h.len mach_set_fin
theorem MSt.value_ (h : MSt w B g vR vC vM vB vS vW bases M) (x : Int) : MSt (w.setCell ⟨g, 3, none⟩ (.int .i64 x)) B g vR vC vM vB vS vW bases { M with value := x } := h.put 3 _ rfl rfl h.len mach_set_value
theorem MSt.steps_ (h : MSt w B g vR vC vM vB vS vW bases M) (k : Nat) : MSt (w.setCell ⟨g, 4, none⟩ (.int .i64 (k : Int))) B g vR vC vM vB vS vW bases { M with steps := k } := h.put 4 _ rfl rfl h.len mach_set_steps
theorem MSt.at__ (h : MSt w B g vR vC vM vB vS vW bases M) (k : Nat) : MSt (w.setCell ⟨g, 18, none⟩ (.int .i64 (k : Int))) B g vR vC vM vB vS vW bases { M with at_ := k } := h.put 18 _ rfl rfl h.len (mach_set_at h.len)
theorem MSt.reg_ (h : MSt w B g vR vC vM vB vS vW bases M) {a : Int} (ha : okIn 10 a = true) (x : Int) : MSt (w.setCell ⟨g, 7 + a.toNat, none⟩ (.int .i64 x)) B g vR vC vM vB vS vW bases { M with regs := rset M.regs a x } := by
  obtain ⟨h0, h1⟩ := okIn_iff.1 ha
  exact h.put _ _ rfl rfl (by rw [rset_len]; exact h.len) (mach_set_reg h.len (by omega))
/-- something shown: behind the append, and its store -/
theorem MSt.show_ (h : MSt w B g vR vC vM vB vS vW bases M) {vS' : Value} {s : List LSee} (hg : w.grownBy w' vS.ownBlock) (ho : w'.ownsRow B 98 3 vS' s.length (s.flatMap seeCells)) :
    MSt (w'.setCell ⟨g, 5, none⟩ vS') B g vR vC vM vB vS' vW bases { M with seen := s } := by
  have hb := h.box.grown hg h.gs
  have hne : some g ≠ vS'.ownBlock := own_ne ho hb (by decide)
  have hw := own_grown h.ws hg (fun k hk he => own_ne2 h.sn h.ws (by decide) k hk he)
  have hbs := own_grown h.bs hg (fun k hk he => own_ne2 h.sn h.bs (by decide) k hk he)
  exact ⟨by rw [← mach_set_seen (u := vS')]; exact hb.set_ 5 vS', own_far ho hne _, own_far hw h.gw _, own_far hbs h.gb _, h.len, h.hg⟩
/-- a word put -/
theorem MSt.word (h : MSt w B g vR vC vM vB vS vW bases M) {x k cap : Nat} (hv : vW = .slice (some ⟨k, 0, none⟩) M.words.length cap) (z : Int) :
    MSt (w.setCell ⟨k, x, none⟩ (.int .i64 z)) B g vR vC vM vB vS vW bases { M with words := M.words.set x z } := by
  subst hv
  have hws := h.ws
  have hkg := h.gw
  have hset := set_grown w ⟨k, x, none⟩ (.int .i64 z)
  refine ⟨h.box.far (p := ⟨k, x, none⟩) (by intro e; exact hkg (by simp [Value.ownBlock, e])) _, own_grown h.sn hset (fun j e he => own_ne2 h.sn h.ws (by decide) j he (by simpa [Value.ownBlock] using e)), ?_,
    own_grown h.bs hset (fun j e he => own_ne2 h.bs h.ws (by decide) j he (by simpa [Value.ownBlock] using e)), h.len, h.hg⟩
  have := (hws.stored x (.int .i64 z)).1
  simp only [List.length_set]
  rw [List.map_set]
  exact this
theorem MSt.cells (h : MSt w B g vR vC vM vB vS vW bases M) :
    (w.cell? ⟨g, 0, none⟩ = some vR ∧ w.frozen? ⟨g, 0, none⟩ = false) ∧ (w.cell? ⟨g, 1, none⟩ = some vC ∧ w.frozen? ⟨g, 1, none⟩ = false) ∧ (w.cell? ⟨g, 2, none⟩ = some (.int .i64 M.fin) ∧ w.frozen? ⟨g, 2, none⟩ = false) ∧
    (w.cell? ⟨g, 3, none⟩ = some (.int .i64 M.value) ∧ w.frozen? ⟨g, 3, none⟩ = false) ∧ (w.cell? ⟨g, 4, none⟩ = some (.int .i64 M.steps) ∧ w.frozen? ⟨g, 4, none⟩ = false) ∧ (w.cell? ⟨g, 5, none⟩ = some vS ∧ w.frozen? ⟨g, 5, none⟩ = false) ∧
    (w.cell? ⟨g, 6, none⟩ = some vM ∧ w.frozen? ⟨g, 6, none⟩ = false) ∧ (w.cell? ⟨g, 17, none⟩ = some vW ∧ w.frozen? ⟨g, 17, none⟩ = false) ∧ (w.cell? ⟨g, 18, none⟩ = some (.int .i64 M.at_) ∧ w.frozen? ⟨g, 18, none⟩ = false) ∧
    (w.cell? ⟨g, 19, none⟩ = some vB ∧ w.frozen? ⟨g, 19, none⟩ = false) := by
  have hl := h.len
  refine ⟨⟨?_, h.box.frozen _⟩, ⟨?_, h.box.frozen _⟩, ⟨?_, h.box.frozen _⟩, ⟨?_, h.box.frozen _⟩, ⟨?_, h.box.frozen _⟩, ⟨?_, h.box.frozen _⟩, ⟨?_, h.box.frozen _⟩, ⟨?_, h.box.frozen _⟩, ⟨?_, h.box.frozen _⟩, ⟨?_, h.box.frozen _⟩⟩ <;>
    (rw [h.box.cell]; simp [machL, List.getElem?_append, hl])
theorem MSt.reg (h : MSt w B g vR vC vM vB vS vW bases M) {a : Int} (ha : okIn 10 a = true) : w.cell? ⟨g, 7 + a.toNat, none⟩ = some (.int .i64 (rg M.regs a)) ∧ w.frozen? ⟨g, 7 + a.toNat, none⟩ = false := by
  obtain ⟨h0, h1⟩ := okIn_iff.1 ha
  exact ⟨by rw [h.box.cell]; exact mach_reg h.len (by omega), h.box.frozen _⟩
/-- behind a call that may show something -/
def SPost (w w' : World) (B g : Nat) (vR vC vM vB vS vW : Value) (bases : List Int) (M' : Mach) : Prop :=
  ∃ vS', MSt w' B g vR vC vM vB vS' vW bases M' ∧ Turn (fun j => j = g ∨ vS.ownBlock = some j) w w' ∧ (∀ j, vS'.ownBlock = some j → vS.ownBlock = some j ∨ w.heap.size ≤ j)
theorem SPost.keep {w1 : World} {M' : Mach} (h : MSt w' B g vR vC vM vB vS vW bases M') (ht : Turn (fun j => j = g ∨ vS.ownBlock = some j) w w') : SPost w w' B g vR vC vM vB vS vW bases M' := ⟨vS, h, ht, fun _ e => .inl e⟩
end
end Go.Proofs.Yteiknefajlocoaa
/- A SECOND LAW OF OUR OWN for a statement whose order Go leaves open: calm operations (they read, and yield one value) may come at any time; the others, 'heavy' (calls, new blocks, appends, stores), stand in one forced order among themselves; the first s of them turn nothing old, and behind the others only calm ones come that do not read memory. One walk serves all orders: the calm ones' values, then the heavy ones one after the other. No program in sight. -/
namespace Go.Proofs.Yteiknefajlocoaa
open Go Go.RowKit
set_option linter.unusedVariables false
set_option linter.unusedSimpArgs false

section
variable {P : Program} {ops : Array Oper}
def reachB (ops : Array Oper) : Nat → Nat → Nat → Bool
  | 0, _, _ => false
  | f + 1, b, i => Region.waitsFor .any ops b i || (List.range b).any fun m => decide (i < m) && (Region.waitsFor .any ops b m && reachB ops f m i)
theorem reach_listed {listed : Array Bool} (hc : Closed ops listed) : ∀ (f b i : Nat), (∀ ob, ops[b]? = some ob → ∀ e ∈ ob.after, Region.binds .any e = true → listed.getD e.on false = true) → reachB ops f b i = true → listed.getD i false = true
  | 0, _, _, _, h => by cases h
  | f + 1, b, i, hb, h => by
    simp only [reachB, Bool.or_eq_true] at h
    have key : ∀ m, Region.waitsFor .any ops b m = true → listed.getD m false = true := fun m hm => by
      obtain ⟨ob, hob, e, he, hbd, rfl⟩ := Region.waitsFor_spec hm
      exact hb ob hob e he hbd
    rcases h with h | h
    · exact key i h
    · obtain ⟨m, _, hm⟩ := List.any_eq_true.1 h
      simp only [Bool.and_eq_true] at hm
      exact reach_listed hc f m i (fun om hom e he hbd => hc m om hom (key m hm.2.1) e he hbd) hm.2.2
def isMove (o : Oper) : Bool := match o.op with
  | .move _ => o.guard.isNone
  | _ => false
def floatOk (ops : Array Oper) (hs : List Nat) (s : Nat) : Bool :=
  Region.noSelect ops &&
  ((List.range ops.size).all fun i => match ops[i]? with | some o => o.after.all fun e => !Region.binds .any e || decide (e.on < i) | none => true) &&
  ((List.range ops.size).all fun i => (List.range i).all fun j => (dstOf ops j).isNone || dstOf ops j != dstOf ops i) &&
  ((List.range ops.size).all fun i => match ops[i]? with
    | some o => (o.looksAt ops).all fun t => (List.range ops.size).all fun j => dstOf ops j != some t || (Region.waitsFor .any ops i j && (decide (j < i) && (hs.contains i || !hs.contains j)))
    | none => true) &&
  (hs.all fun c => decide (c < ops.size)) &&
  ((List.range hs.length).all fun b => (List.range b).all fun a => reachB ops ops.size (hs.getD b 0) (hs.getD a 0)) &&
  ((List.range hs.length).all fun b => decide (b < s) || (List.range ops.size).all fun i => hs.contains i || ((ops[i]?).map isMove).getD true || reachB ops ops.size (hs.getD b 0) i)

/-- a calm operation: one value, the world as it was, wherever nothing old has turned; or its guard is not met -/
def calmV (P : Program) (ops : Array Oper) (W : World) (o : Oper) (a : Act) (v : Value) : Prop :=
  (Region.wanted o (yielded ops a.tmps) = true ∧ ∀ w, Ext W w → (execOp a.eval o).run P w = .ok (.value v) w) ∨ (Region.wanted o (yielded ops a.tmps) = false ∧ v = undef)
def calmW (P : Program) (ops : Array Oper) (W : World) (hs : List Nat) (Z : Act → Prop) : Nat → List Oper → Act → Prop
  | _, [], a => Z a
  | k, o :: rest, a => if hs.contains k = true then calmW P ops W hs Z (k + 1) rest a else ∃ v, calmV P ops W o a v ∧ calmW P ops W hs Z (k + 1) rest (a.put o.dst v)
def heavies (ops : Array Oper) (hs : List Nat) : List Oper := hs.filterMap fun i => ops[i]?
/-- the heavy ones, one after the other: the first s of them turn nothing old -/
def wpF (P : Program) (ops : Array Oper) (Z : Act → World → Prop) (W : World) : Nat → List Nat → Act → World → Prop
  | _, [], A, w => Z A w
  | 0, i :: r, A, w => wpList P ops (fun x A' w' => x = .normal ∧ Z A' w') (heavies ops (i :: r)) A w
  | s + 1, i :: r, A, w => wpList P ops (fun x A' w' => x = .normal ∧ Ext W w' ∧ wpF P ops Z W s r A' w') (heavies ops [i]) A w
theorem wp_strict {o : Oper} {A A' : Act} {w : World} {K K' : Act → World → Prop} {Q1 Q2 : Exit → Act → World → Prop} (hE : execOp A.eval o = execOp A'.eval o)
    (hK : ∀ v w', K (A.put o.dst v) w' → K' (A'.put o.dst v) w') (hD : ∀ d w', K ({ A with defers := d :: A.defers }.put o.dst undef) w' → K' ({ A' with defers := d :: A'.defers }.put o.dst undef) w')
    (hQ : ∀ x a w, x ≠ .normal → ¬ Q1 x a w) (h : o.wp P A w K Q1) : o.wp P A' w K' Q2 := by
  unfold Oper.wp at *
  rw [← hE]
  generalize (execOp A.eval o).run P w = r at *
  cases r with
  | ok n w' =>
    cases n <;> simp only [Oper.upon] at h ⊢
    case value v => exact hK _ _ h
    case skip => exact hK _ _ h
    case defer d => exact hD _ _ h
    case enter f args =>
      exact Calls.mono h (fun e w'' he => by
        cases e
        · exact hK _ _ he
        · exact absurd he (hQ _ _ _ (by simp))
        · obtain ⟨a, w, he⟩ := he
          exact absurd he (hQ _ _ _ (by simp)))
    case row row args => exact Rows.mono h (fun _ _ he => hK _ _ he)
  | halt x w' =>
    cases x <;> simp only [Oper.upon] at h ⊢
    exact absurd h (hQ _ _ _ (by simp))
/-- what the next heavy one does -/
theorem wpF_step {Z : Act → World → Prop} {W : World} {s i : Nat} {r : List Nat} {A : Act} {w : World} {o : Oper} (ho : ops[i]? = some o) (hE : 0 < s → Ext W w) (h : wpF P ops Z W s (i :: r) A w) :
    (Region.wanted o (yielded ops A.tmps) = true ∧ ∃ Q1 : Exit → Act → World → Prop, (∀ x a w, x ≠ .normal → ¬ Q1 x a w) ∧ o.wp P A w (fun A' w' => (0 < s → Ext W w') ∧ wpF P ops Z W (s - 1) r A' w') Q1) ∨
    (Region.wanted o (yielded ops A.tmps) = false ∧ (0 < s → Ext W w) ∧ wpF P ops Z W (s - 1) r (A.put o.dst undef) w) := by
  cases s with
  | zero =>
    unfold wpF at h
    simp only [heavies, List.filterMap_cons, ho] at h
    have hr : ∀ A' w', wpList P ops (fun x A' w' => x = .normal ∧ Z A' w') (r.filterMap fun i => ops[i]?) A' w' → (0 < 0 → Ext W w') ∧ wpF P ops Z W (0 - 1) r A' w' := fun A' w' hh => by
      refine ⟨fun h0 => absurd h0 (by decide), ?_⟩
      cases r with
      | nil => exact hh.2
      | cons j r => exact hh
    cases hw : Region.wanted o (yielded ops A.tmps)
    · right
      unfold wpList at h
      rw [hw] at h
      simp only [Bool.false_eq_true, if_false] at h
      exact ⟨rfl, fun h0 => absurd h0 (by decide), (hr _ _ h).2⟩
    · left
      unfold wpList at h
      rw [hw] at h
      simp only [if_true] at h
      refine ⟨rfl, fun x A' w' => x = .normal ∧ Z A' w', fun x a w hx hh => hx hh.1, ?_⟩
      rcases h with h | ⟨-, a, w, h⟩
      · exact Oper.wp_mono hr h
      · cases h.1
  | succ s =>
    unfold wpF at h
    simp only [heavies, List.filterMap_cons, ho, List.filterMap_nil] at h
    cases hw : Region.wanted o (yielded ops A.tmps)
    · right
      unfold wpList at h
      rw [hw] at h
      simp only [Bool.false_eq_true, if_false] at h
      exact ⟨rfl, fun _ => h.2.1, h.2.2⟩
    · left
      unfold wpList at h
      rw [hw] at h
      simp only [if_true] at h
      refine ⟨rfl, fun x A' w' => x = .normal ∧ Ext W w' ∧ wpF P ops Z W s r A' w', fun x a w hx hh => hx hh.1, ?_⟩
      rcases h with h | ⟨-, a, w, h⟩
      · exact Oper.wp_mono (fun A' w' hh => ⟨fun _ => hh.2.1, hh.2.2⟩) h
      · cases h.1
/-- frames that agree but for what calm operations have not yet yielded -/
def Pend (ops : Array Oper) (pend : Nat → Prop) (a' A : Act) : Prop :=
  a'.defers = A.defers ∧ a'.tmps.size = A.tmps.size ∧ ∀ t, (∀ i, pend i → dstOf ops i ≠ some t) → a'.tmps[t]? = A.tmps[t]?
theorem pend_put {pend : Nat → Prop} {a' A : Act} (h : Pend ops pend a' A) (d : Option Tmp) (v : Value) : Pend ops pend (a'.put d v) (A.put d v) := by
  obtain ⟨h1, h2, h3⟩ := h
  cases d with
  | none => exact ⟨h1, h2, h3⟩
  | some d =>
    refine ⟨h1, by simpa [Act.put] using h2, fun t ht => ?_⟩
    simp only [Act.put]
    by_cases hd : d = t
    · subst hd
      by_cases hl : d < A.tmps.size
      · rw [Array.getElem?_setIfInBounds_self_of_lt (by rw [h2]; exact hl), Array.getElem?_setIfInBounds_self_of_lt hl]
      · rw [Array.getElem?_eq_none (by rw [Array.size_setIfInBounds, h2]; exact Nat.le_of_not_lt hl), Array.getElem?_eq_none (by rw [Array.size_setIfInBounds]; exact Nat.le_of_not_lt hl)]
    · rw [Array.getElem?_setIfInBounds_ne hd, Array.getElem?_setIfInBounds_ne hd]; exact h3 t ht
theorem pend_mono {p q : Nat → Prop} {a' A : Act} (h : Pend ops p a' A) (hpq : ∀ i, p i → q i) : Pend ops q a' A := ⟨h.1, h.2.1, fun t ht => h.2.2 t fun i hi => ht i (hpq i hi)⟩
/-- a calm one yields -/
theorem pend_calm {pend : Nat → Prop} {a' A : Act} (h : Pend ops pend a' A) (i : Nat) (v : Value) (hA : ∀ t, dstOf ops i = some t → t < A.tmps.size → A.tmps[t]? = some v) : Pend ops (fun j => pend j ∧ j ≠ i) (a'.put (dstOf ops i) v) A := by
  obtain ⟨h1, h2, h3⟩ := h
  cases hd : dstOf ops i with
  | none => exact ⟨h1, h2, fun t ht => h3 t fun j hj => by
      by_cases e : j = i
      · subst e; rw [hd]; simp
      · exact ht j ⟨hj, e⟩⟩
  | some d =>
    refine ⟨h1, by simpa [Act.put] using h2, fun t ht => ?_⟩
    simp only [Act.put]
    by_cases e : d = t
    · subst e
      by_cases hl : d < A.tmps.size
      · rw [Array.getElem?_setIfInBounds_self_of_lt (by rw [h2]; exact hl), hA d hd hl]
      · rw [Array.getElem?_eq_none (by rw [Array.size_setIfInBounds, h2]; exact Nat.le_of_not_lt hl), Array.getElem?_eq_none (Nat.le_of_not_lt hl)]
    · rw [Array.getElem?_setIfInBounds_ne e]
      exact h3 t fun j hj => by
        by_cases ej : j = i
        · subst ej; rw [hd]; simpa using e
        · exact ht j ⟨hj, ej⟩
/-- the calm values out of the walk -/
theorem calmW_values {W : World} {hs : List Nat} {Z : Act → Prop} {a0 : Act} (hdist : ∀ i j, i < ops.size → j < i → ∀ t, dstOf ops j = some t → dstOf ops i ≠ some t) : ∀ (l : List Oper) (k : Nat) (a : Act) (vs0 : Nat → Value),
    (∀ j, l[j]? = ops[k + j]?) → k + l.length = ops.size →
    IsMix ops a0 vs0 (fun i => i < k ∧ hs.contains i = false) a → calmW P ops W hs Z k l a →
    ∃ vs, (∀ j, j < k → vs j = vs0 j) ∧ (∀ i, k ≤ i → i < ops.size → hs.contains i = false → ∃ o c, ops[i]? = some o ∧ IsMix ops a0 vs (fun j => j < i ∧ hs.contains j = false) c ∧ calmV P ops W o c (vs i)) ∧ ∃ c, IsMix ops a0 vs (fun i => i < ops.size ∧ hs.contains i = false) c ∧ Z c
  | [], k, a, vs0, _, hk, hm, h => ⟨vs0, fun _ _ => rfl, fun i h1 h2 => by simp at hk; omega, a, by simp at hk; rw [← hk]; exact hm, h⟩
  | o :: l, k, a, vs0, hl, hk, hm, h => by
    have ho : ops[k]? = some o := by have := hl 0; simpa using this.symm
    have hdst : o.dst = dstOf ops k := by simp [dstOf, ho]
    have hkl : k < ops.size := by simp at hk; omega
    have hl' : ∀ j, l[j]? = ops[k + 1 + j]? := fun j => by have := hl (j + 1); simp only [List.getElem?_cons_succ] at this; rw [this, show k + (j + 1) = k + 1 + j by omega]
    unfold calmW at h
    by_cases hh : hs.contains k = true
    · rw [if_pos hh] at h
      obtain ⟨vs, e1, e2, e3⟩ := calmW_values hdist l (k + 1) a vs0 hl' (by simp at hk; omega) (mix_congr hm (fun i => by
        constructor
        · rintro ⟨h1, h2⟩; exact ⟨by omega, h2⟩
        · rintro ⟨h1, h2⟩
          refine ⟨?_, h2⟩
          by_cases e : i = k
          · subst e; rw [hh] at h2; cases h2
          · omega) (fun _ _ => rfl)) h
      refine ⟨vs, fun j hj => e1 j (by omega), fun i h1 h2 h3 => e2 i ?_ h2 h3, e3⟩
      by_cases e : i = k
      · subst e; rw [hh] at h3; cases h3
      · omega
    · rw [if_neg hh] at h
      have hh' : hs.contains k = false := by simpa using hh
      obtain ⟨v, hv, h⟩ := h
      have hm' : IsMix ops a0 (fun i => if i = k then v else vs0 i) (fun i => i < k + 1 ∧ hs.contains i = false) (a.put o.dst v) := by
        have := mix_put (vs' := fun i => if i = k then v else vs0 i) hm k (fun j hj t ht => hdist k j hkl hj.1 t ht) (fun j hj => by simp; intro e; omega)
        simp only [if_true] at this
        rw [hdst]
        refine mix_congr this (fun i => ?_) (fun _ _ => rfl)
        constructor
        · rintro (h1 | rfl)
          · exact ⟨by omega, h1.2⟩
          · exact ⟨by omega, hh'⟩
        · rintro ⟨h1, h2⟩
          by_cases e : i = k
          · exact .inr e
          · exact .inl ⟨by omega, h2⟩
      obtain ⟨vs, e1, e2, e3⟩ := calmW_values hdist l (k + 1) (a.put o.dst v) _ hl' (by simp at hk; omega) hm' h
      have ek : vs k = v := by rw [e1 k (by omega)]; simp
      refine ⟨vs, fun j hj => by rw [e1 j (by omega)]; simp; intro e; omega, fun i h1 h2 h3 => ?_, e3⟩
      by_cases e : i = k
      · subst e
        refine ⟨o, a, ho, mix_congr hm (fun _ => Iff.rfl) (fun j hj => by rw [e1 j (by omega)]; simp; intro e; omega), ?_⟩
        rw [ek]; exact hv
      · exact e2 i (by omega) h2 h3
theorem move_run {o : Oper} (h : isMove o = true) (a : Act) (w : World) : ∃ x, o.op = .move x ∧ o.guard = none ∧ (execOp a.eval o).run P w = .ok (.value (a.eval x)) w := by
  unfold isMove at h
  cases ho : o.op <;> rw [ho] at h <;> simp only [Bool.false_eq_true] at h
  rename_i x
  refine ⟨x, rfl, by simpa using h, ?_⟩
  unfold execOp
  simp [ho]

/-- what an invariant of the orders says: k heavy ones have been taken -/
structure Floats (P : Program) (ops : Array Oper) (Z : Act → World → Prop) (W : World) (hs : List Nat) (s : Nat) (vs : Nat → Value) (a0 : Act) (listed : Array Bool) (a' : Act) (w : World) : Prop where
  closed : Closed ops listed
  ex : ∃ k A, k ≤ hs.length ∧ (∀ b, b < hs.length → (listed.getD (hs.getD b 0) false = true ↔ b < k)) ∧ (k ≤ s → Ext W w) ∧ wpF P ops Z W (s - k) (hs.drop k) A w ∧
    Pend ops (fun i => i < ops.size ∧ hs.contains i = false ∧ listed.getD i false = false) a' A ∧
    (∀ i t, i < ops.size → hs.contains i = false → dstOf ops i = some t → t < A.tmps.size → A.tmps[t]? = some (vs i)) ∧
    (∀ t, (∀ i, dstOf ops i ≠ some t) → A.tmps[t]? = a0.tmps[t]?) ∧ A.tmps.size = a0.tmps.size

theorem floats_step {Z : Act → World → Prop} {Q : Exit → Act → World → Prop} {W : World} {hs : List Nat} {s : Nat} {vs : Nat → Value} {a0 : Act} (hB : floatOk ops hs s = true)
    (hv : ∀ i, i < ops.size → hs.contains i = false → ∃ o c, ops[i]? = some o ∧ IsMix ops a0 vs (fun j => j < i ∧ hs.contains j = false) c ∧ calmV P ops W o c (vs i))
    {listed : Array Bool} {a' : Act} {w : World} {i : Nat} (hsz : listed.size = ops.size) (hI : Floats P ops Z W hs s vs a0 listed a' w) (hi : i ∈ Region.ready .any ops listed) :
    wpOp P ops Q i (Floats P ops Z W hs s vs a0 (listed.setIfInBounds i true)) a' w := by
  simp only [floatOk, Bool.and_eq_true] at hB
  obtain ⟨⟨⟨⟨⟨⟨hsel, hback⟩, hdist⟩, hlook⟩, hin⟩, hord⟩, hhard⟩ := hB
  obtain ⟨hc, k, A, hk, hdone, hext, hF, hP, hAv, hAn, hAs⟩ := hI
  obtain ⟨hnl, o, ho, hall⟩ := mem_ready.1 hi
  have hil : i < ops.size := (Array.getElem?_eq_some_iff.1 ho).1
  have hils : i < listed.size := by omega
  have hnl' : listed.getD i false = false := by
    simp [hils] at hnl ⊢; exact hnl
  have hdst : o.dst = dstOf ops i := by simp [dstOf, ho]
  have hallo : ∀ ob, ops[i]? = some ob → ∀ e ∈ ob.after, Region.binds .any e = true → listed.getD e.on false = true := fun ob hob e he hb => by
    rw [ho] at hob
    obtain rfl := Option.some.inj hob
    exact hall e he hb
  have dist : ∀ x y, x < ops.size → y < ops.size → x ≠ y → ∀ t, dstOf ops x = some t → dstOf ops y ≠ some t := by
    have one : ∀ x y, x < ops.size → y < x → ∀ t, dstOf ops y = some t → dstOf ops x ≠ some t := fun x y hx hy t ht e => by
      have h := List.all_eq_true.1 (List.all_eq_true.1 hdist x (List.mem_range.2 hx)) y (List.mem_range.2 hy)
      rw [ht, e] at h
      simp at h
    intro x y hx hy hne t ht e
    rcases Nat.lt_or_gt_of_ne hne with h | h
    · exact one y x hy h t ht e
    · exact one x y hx h t e ht
  -- what it looks at has been yielded
  have look : ∀ t, t ∈ o.looksAt ops → ∀ j, dstOf ops j = some t → j < i ∧ listed.getD j false = true ∧ (hs.contains i = true ∨ hs.contains j = false) := fun t ht j hj => by
    have h := List.all_eq_true.1 hlook i (List.mem_range.2 hil)
    rw [ho] at h
    have hjl : j < ops.size := by
      unfold dstOf at hj
      cases hx : ops[j]? with
      | none => rw [hx] at hj; cases hj
      | some oj => exact (Array.getElem?_eq_some_iff.1 hx).1
    have h2 := List.all_eq_true.1 (List.all_eq_true.1 h t ht) j (List.mem_range.2 hjl)
    rw [hj] at h2
    simp only [bne_self_eq_false, Bool.false_or, Bool.and_eq_true, decide_eq_true_eq, Bool.or_eq_true, Bool.not_eq_true'] at h2
    obtain ⟨oj, hoj, e, he, hb, rfl⟩ := Region.waitsFor_spec h2.1
    exact ⟨h2.2.1, hallo oj hoj e he hb, h2.2.2⟩
  have hlt : ∀ t, t ∈ o.looksAt ops → a'.tmps[t]? = A.tmps[t]? := fun t ht => hP.2.2 t fun j hj e => by
    have := (look t ht j e).2.1
    rw [hj.2.2] at this; cases this
  have hex := eval_alike (ops := ops) o (fun cs b => Region.noSelect_spec hsel i o cs b ho) hlt
  have hwa := wanted_alike (ops := ops) o hlt
  have hcl := hc.step hi
  unfold wpOp
  rw [ho]
  simp only []
  cases hh : hs.contains i
  · -- a calm one
    obtain ⟨o2, c, ho2, hmc, hcalm⟩ := hv i hil hh
    rw [ho] at ho2
    obtain rfl := Option.some.inj ho2
    have hlc : ∀ t, t ∈ o.looksAt ops → A.tmps[t]? = c.tmps[t]? := fun t ht => by
      by_cases hx : ∃ j, dstOf ops j = some t
      · obtain ⟨j, hj⟩ := hx
        obtain ⟨h1, h2, h3⟩ := look t ht j hj
        have hjh : hs.contains j = false := by
          rcases h3 with h3 | h3
          · rw [hh] at h3; cases h3
          · exact h3
        by_cases hl : t < A.tmps.size
        · rw [hAv j t (by omega) hjh hj hl, hmc.2.2.1 j t ⟨h1, hjh⟩ hj (by rw [← hAs]; exact hl)]
        · rw [Array.getElem?_eq_none (Nat.le_of_not_lt hl), Array.getElem?_eq_none (by rw [hmc.2.1, ← hAs]; exact Nat.le_of_not_lt hl)]
      · rw [hAn t fun j e => hx ⟨j, e⟩, hmc.2.2.2 t fun j _ e => hx ⟨j, e⟩]
    have hlac : ∀ t, t ∈ o.looksAt ops → a'.tmps[t]? = c.tmps[t]? := fun t ht => (hlt t ht).trans (hlc t ht)
    have hexc := eval_alike (ops := ops) o (fun cs b => Region.noSelect_spec hsel i o cs b ho) hlac
    have hwac := wanted_alike (ops := ops) o hlac
    have next : Floats P ops Z W hs s vs a0 (listed.setIfInBounds i true) (a'.put o.dst (vs i)) w := by
      refine ⟨hcl, k, A, hk, fun b hb => ?_, hext, hF, ?_, hAv, hAn, hAs⟩
      · rw [← hdone b hb]
        have hne : hs.getD b 0 ≠ i := fun e => by
          have : hs.contains i = true := by
            rw [← e]; simp [hb]
          rw [hh] at this; cases this
        rw [getD_set_ne false (fun e => hne e.symm)]
      · rw [hdst]
        refine pend_mono (pend_calm hP i (vs i) (fun t ht hl => hAv i t hil hh ht hl)) fun j hj => ?_
        obtain ⟨⟨h1, h2, h3⟩, h4⟩ := hj
        exact ⟨h1, h2, by rw [getD_set_ne false (fun e => h4 e.symm)]; exact h3⟩
    rcases hcalm with ⟨hw, hrun⟩ | ⟨hw, hv0⟩
    · rw [hwac, if_pos hw]
      left
      have hrw : (execOp a'.eval o).run P w = .ok (.value (vs i)) w := by
        rw [hexc]
        by_cases hks : k ≤ s
        · exact hrun w (hext hks)
        · -- behind a heavy one that turns something: it does not read memory
          have hsk : s < hs.length := by omega
          have h1 := List.all_eq_true.1 hhard s (List.mem_range.2 hsk)
          rw [decide_eq_false (Nat.lt_irrefl s), Bool.false_or] at h1
          have h2 := List.all_eq_true.1 h1 i (List.mem_range.2 hil)
          rw [ho, hh] at h2
          simp only [Bool.false_or, Option.map_some, Option.getD_some, Bool.or_eq_true] at h2
          rcases h2 with h2 | h2
          · obtain ⟨x, hx, -, hr⟩ := move_run (P := P) h2 c w
            obtain ⟨x', hx', -, hr'⟩ := move_run (P := P) h2 c W
            rw [hx] at hx'
            obtain rfl := Op.move.inj hx'
            have h3 := hrun W (Ext.refl W)
            rw [hr'] at h3
            rw [hr]
            simp only [Result.ok.injEq, Next.value.injEq, and_true] at h3
            rw [h3]
          · exfalso
            have h3 : listed.getD (hs.getD s 0) false = true := (hdone s hsk).2 (by omega)
            have := reach_listed hc ops.size (hs.getD s 0) i (fun ob hob e he hb => hc _ ob hob h3 e he hb) h2
            rw [hnl'] at this; cases this
      unfold Oper.wp
      rw [hrw]
      exact next
    · rw [hwac, hw]
      simp only [Bool.false_eq_true, if_false]
      rw [hv0] at next
      exact next
  · -- a heavy one: the next
    have hmem : i ∈ hs := by simpa using hh
    obtain ⟨b, hb, hbi⟩ := List.getElem_of_mem hmem
    have hgb : hs.getD b 0 = i := by simp [hb, hbi]
    have hbk : k ≤ b := by
      rcases Nat.lt_or_ge b k with h | h
      · have := (hdone b hb).2 h
        rw [hgb, hnl'] at this; cases this
      · exact h
    have hbk' : b = k := by
      rcases Nat.lt_or_ge k b with h | h
      · exfalso
        have h1 := List.all_eq_true.1 (List.all_eq_true.1 hord b (List.mem_range.2 hb)) k (List.mem_range.2 h)
        rw [hgb] at h1
        have := reach_listed hc ops.size i (hs.getD k 0) hallo h1
        have := (hdone k (by omega)).1 this
        omega
      · omega
    subst hbk'
    have hdrop : hs.drop b = i :: hs.drop (b + 1) := by rw [List.drop_eq_getElem_cons hb, hbi]
    rw [hdrop] at hF
    have next : ∀ (A1 a1 : Act) (v : Value) (w1 : World), A1.tmps = A.tmps → a1.tmps = a'.tmps → a1.defers = A1.defers → (0 < s - b → Ext W w1) → wpF P ops Z W (s - b - 1) (hs.drop (b + 1)) (A1.put o.dst v) w1 → Floats P ops Z W hs s vs a0 (listed.setIfInBounds i true) (a1.put o.dst v) w1 := by
      intro A1 a1 v w1 hA1 ha1 hdf hx hw
      have hPP : Pend ops (fun j => j < ops.size ∧ hs.contains j = false ∧ listed.getD j false = false) a1 A1 := ⟨hdf, by rw [ha1, hA1]; exact hP.2.1, fun t ht => by rw [ha1, hA1]; exact hP.2.2 t ht⟩
      refine ⟨hcl, b + 1, A1.put o.dst v, by omega, fun d hd => ?_, fun hle => hx (by omega), by rw [show s - (b + 1) = s - b - 1 by omega]; exact hw, ?_, fun j t hj hjh hjt hl => ?_, fun t ht => ?_, ?_⟩
      · by_cases hdb : d = b
        · subst hdb
          rw [hgb, set_listed hils]
          simp
        · have hne : hs.getD d 0 ≠ i := fun e => by
            rcases Nat.lt_or_gt_of_ne hdb with h | h
            · have := (hdone d hd).2 h
              rw [e, hnl'] at this; cases this
            · have h1 := List.all_eq_true.1 (List.all_eq_true.1 hord d (List.mem_range.2 hd)) b (List.mem_range.2 h)
              rw [e, hgb] at h1
              have := reach_listed hc ops.size i i hallo h1
              rw [hnl'] at this; cases this
          rw [getD_set_ne false (fun e => hne e.symm), hdone d hd]
          omega
      · refine pend_mono (pend_put hPP o.dst v) fun j hj => ⟨hj.1, hj.2.1, ?_⟩
        have hne : j ≠ i := fun e => by rw [e, hh] at hj; cases hj.2.1
        rw [getD_set_ne false (fun e => hne e.symm)]
        exact hj.2.2
      · have hne : j ≠ i := fun e => by rw [e, hh] at hjh; cases hjh
        have hns : dstOf ops i ≠ some t := dist j i hj hil hne t hjt
        have hAA : (A1.put o.dst v).tmps[t]? = A.tmps[t]? := by
          rw [hdst]
          cases hd : dstOf ops i with
          | none => simp [Act.put, hA1]
          | some d =>
            have : d ≠ t := fun e => hns (by rw [hd, e])
            simp only [Act.put]
            rw [Array.getElem?_setIfInBounds_ne this, hA1]
        rw [hAA]
        refine hAv j t hj hjh hjt ?_
        have hsz2 : (A1.put o.dst v).tmps.size = A.tmps.size := by cases o.dst <;> simp [Act.put, hA1]
        rw [← hsz2]; exact hl
      · have hns : dstOf ops i ≠ some t := ht i
        rw [← hAn t ht, hdst]
        cases hd : dstOf ops i with
        | none => simp [Act.put, hA1]
        | some d =>
          have : d ≠ t := fun e => hns (by rw [hd, e])
          simp only [Act.put]
          rw [Array.getElem?_setIfInBounds_ne this, hA1]
      · rw [← hAs]
        cases o.dst <;> simp [Act.put, hA1]
    rw [hwa]
    rcases wpF_step ho (fun h0 => hext (by omega)) hF with ⟨hw, Q1, hQ1, hwp⟩ | ⟨hw, hx, hw2⟩
    · rw [if_pos hw]
      left
      exact wp_strict hex.symm (fun v w1 hh => next A a' v w1 rfl rfl hP.1 hh.1 hh.2) (fun d w1 hh => next { A with defers := d :: A.defers } { a' with defers := d :: a'.defers } undef w1 rfl rfl (by simp [hP.1]) hh.1 hh.2) hQ1 hwp
    · rw [hw]
      simp only [Bool.false_eq_true, if_false]
      exact next A a' undef w rfl rfl hP.1 hx hw2
theorem put_none (a : Act) : a.put none undef = a := rfl
/-- THE LAW -/
theorem region_float {id : Nat} {l : List Oper} {Q : Exit → Act → World → Prop} {W : World} {a : Act} (hs : List Nat) (s : Nat) (hm : P.follows .mixedOrders = true) (hB : floatOk l.toArray hs s = true)
    (h : calmW P l.toArray W hs (fun A => ∀ w, Ext W w → wpF P l.toArray (Q .normal) W s hs A w) 0 l a) : (Code.region id l.toArray true).wp P Q a W := by
  have hB' := hB
  simp only [floatOk, Bool.and_eq_true] at hB'
  obtain ⟨⟨⟨⟨⟨⟨hsel, hback⟩, hdist⟩, hlook⟩, hin⟩, hord⟩, hhard⟩ := hB'
  have one : ∀ x y, x < l.toArray.size → y < x → ∀ t, dstOf l.toArray y = some t → dstOf l.toArray x ≠ some t := fun x y hx hy t ht e => by
    have h := List.all_eq_true.1 (List.all_eq_true.1 hdist x (List.mem_range.2 hx)) y (List.mem_range.2 hy)
    rw [ht, e] at h
    simp at h
  obtain ⟨vs, _, hv, c, hcm, hZ⟩ := calmW_values (ops := l.toArray) (a0 := a) one l 0 a (fun _ => undef) (fun j => by simp) (by simp) (mix_congr (mix_nil a (fun _ => undef)) (fun i => ⟨fun h => h.elim, fun h => by omega⟩) (fun _ h => h.elim)) h
  refine wp_region_any hm ?_
  refine wpAny_inv (Floats P l.toArray (Q .normal) W hs s vs a) ?_ ?_ ?_ _ _ _ _ (by simp) (by
    refine Nat.le_trans (List.length_filter_le _ _) (by simp)) ?_
  · intro listed a' w i hsz hI hi
    exact floats_step hB (fun i h1 h2 => hv i (by omega) h1 h2) hsz hI hi
  · -- the end
    intro listed a' w hsz hI hr
    have hall : ∀ i, i < l.toArray.size → listed.getD i false = true := by
      intro i hi
      cases hl : listed.getD i false
      · exfalso
        obtain ⟨m, h1, h2, h3⟩ := range_first (p := fun i => !listed.getD i false) (m := l.toArray.size) ⟨i, hi, by simpa using hl⟩
        have hm' : m ∈ Region.ready .any l.toArray listed := by
          refine mem_ready.2 ⟨?_, l.toArray[m], by simp [h1], fun e he hb => ?_⟩
          · have hlt : m < listed.size := by omega
            simp [hlt] at h2 ⊢; exact h2
          · have h := List.all_eq_true.1 hback m (List.mem_range.2 h1)
            have ho : l.toArray[m]? = some l.toArray[m] := by simp [h1]
            rw [ho] at h
            have := (Array.all_eq_true'.1 h) e he
            rw [hb] at this
            simp at this
            have := h3 e.on this
            simpa using this
        rw [hr] at hm'
        cases hm'
      · rfl
    obtain ⟨hc, k, A, hk, hdone, hext, hF, hP, hAv, hAn, hAs⟩ := hI
    have hkl : k = hs.length := by
      rcases Nat.lt_or_ge k hs.length with h1 | h1
      · exfalso
        have hin1 := List.all_eq_true.1 hin (hs.getD k 0) (by simp [h1])
        have := (hdone k h1).1 (hall _ (by simpa using hin1))
        omega
      · omega
    rw [hkl, List.drop_length] at hF
    have hA : a' = A := by
      obtain ⟨p1, p2, p3⟩ := hP
      obtain ⟨t1, d1⟩ := a'
      obtain ⟨t2, d2⟩ := A
      have ht : t1 = t2 := by
        apply Array.ext_getElem?
        intro t
        exact p3 t fun i hi e => by
          have h1 := hall i hi.1
          have h2 := hi.2.2
          rw [h1] at h2; cases h2
      subst ht
      congr 1
    rw [hA]
    cases hsk : s - hs.length <;> (rw [hsk] at hF; exact hF)
  · intro listed a' w hsz _ hall
    rw [List.eq_nil_iff_forall_not_mem]
    intro i hi
    obtain ⟨h0, o, ho, _⟩ := mem_ready.1 hi
    rw [hall i (Array.getElem?_eq_some_iff.1 ho).1] at h0
    cases h0
  · -- the beginning
    have hnl : ∀ j, (Array.replicate l.toArray.size false).getD j false = false := fun j => by
      rw [Array.getD_eq_getD_getElem?, Array.getElem?_replicate]
      split <;> rfl
    refine ⟨fun j oj hj hl => absurd hl (by rw [hnl j]; simp), 0, c, Nat.zero_le _, fun b hb => ?_, fun _ => (Ext.refl W).drew, ?_, ?_, fun i t hi hh ht hl => ?_, fun t ht => ?_, hcm.2.1⟩
    · rw [hnl]; simp
    · exact hZ _ ((Ext.refl W).drew)
    · refine ⟨hcm.1.symm, hcm.2.1.symm, fun t ht => ?_⟩
      exact (hcm.2.2.2 t fun i hi => ht i ⟨hi.1, hi.2, hnl i⟩).symm
    · exact hcm.2.2.1 i t ⟨hi, hh⟩ ht (by rw [← hcm.2.1]; exact hl)
    · exact hcm.2.2.2 t fun i _ => ht i
/-! steps of the walk -/
section
variable {W : World} {hs : List Nat} {Zc : Act → Prop} {k s i : Nat} {o : Oper} {rest : List Oper} {a : Act} {r : List Nat} {Z : Act → World → Prop} {w : World}
theorem cw_nil (h : Zc a) : calmW P ops W hs Zc k [] a := h
theorem cw_heavy (hh : hs.contains k = true) (h : calmW P ops W hs Zc (k + 1) rest a) : calmW P ops W hs Zc k (o :: rest) a := by
  unfold calmW; rw [if_pos hh]; exact h
theorem cw_value (hh : hs.contains k = false) (hw : Region.wanted o (yielded ops a.tmps) = true)
    (h : ∃ v, (∀ w, Ext W w → (execOp a.eval o).run P w = .ok (.value v) w) ∧ calmW P ops W hs Zc (k + 1) rest (a.put o.dst v)) : calmW P ops W hs Zc k (o :: rest) a := by
  obtain ⟨v, h1, h2⟩ := h
  unfold calmW
  rw [if_neg (by rw [hh]; simp)]
  exact ⟨v, .inl ⟨hw, h1⟩, h2⟩
theorem cw_skip (hh : hs.contains k = false) (hw : Region.wanted o (yielded ops a.tmps) = false) (h : calmW P ops W hs Zc (k + 1) rest (a.put o.dst undef)) : calmW P ops W hs Zc k (o :: rest) a := by
  unfold calmW
  rw [if_neg (by rw [hh]; simp)]
  exact ⟨undef, .inr ⟨hw, rfl⟩, h⟩
theorem wpF_soft (ho : ops[i]? = some o) (h : wpList P ops (fun x A' w' => x = .normal ∧ Ext W w' ∧ wpF P ops Z W s r A' w') [o] a w) : wpF P ops Z W (s + 1) (i :: r) a w := by
  unfold wpF
  simp only [heavies, List.filterMap_cons, ho, List.filterMap_nil]
  exact h
theorem wpF_hard {L : List Oper} (hL : heavies ops (i :: r) = L) (h : wpList P ops (fun x A' w' => x = .normal ∧ Z A' w') L a w) : wpF P ops Z W 0 (i :: r) a w := by
  unfold wpF
  rw [hL]
  exact h
theorem heavies_cons {L : List Oper} (ho : ops[i]? = some o) (h : heavies ops r = L) : heavies ops (i :: r) = o :: L := by
  unfold heavies at *
  rw [List.filterMap_cons, ho, h]
theorem heavies_nil : heavies ops [] = [] := rfl
end
end
end Go.Proofs.Yteiknefajlocoaa
/- What is known, state by state, in memory: the program's checker. -/
namespace Go.Proofs.Yteiknefajlocoaa
open Go.ChangeShapes Go.WideShapes Go.ChangeAt Go.RowKit
set_option linter.unusedVariables false
set_option linter.unusedSimpArgs false

def knCells (k : LKn) : List Value := [.int .i64 k.bits, .bool k.sec]
def knV (k : LKn) : Value := .agg #[.int .i64 k.bits, .bool k.sec]
def stV (s : KSt) : Array Value := (s.flatMap knCells).toArray
theorem kn_size (s : KSt) : (s.flatMap knCells).length = s.length * 2 := by
  induction s with
  | nil => rfl
  | cons k s ih => rw [List.flatMap_cons, List.length_append, ih, List.length_cons]; simp [knCells]; omega
theorem stV_size {s : KSt} (h : s.length = 8) : (stV s).size = 16 := by
  unfold stV
  rw [List.size_toArray, kn_size, h]
theorem kn_get : ∀ (s : KSt) (a : Nat), a < s.length → (s.flatMap knCells)[a * 2]? = some (.int .i64 (s.getD a default).bits) ∧ (s.flatMap knCells)[a * 2 + 1]? = some (.bool (s.getD a default).sec)
  | [], a, h => by simp at h
  | k :: s, 0, h => by simp [knCells]
  | k :: s, a + 1, h => by
    have := kn_get s a (by simpa using h)
    rw [List.flatMap_cons, show (a + 1) * 2 = a * 2 + 2 by omega, show a * 2 + 2 + 1 = a * 2 + 1 + 2 by omega]
    simp only [knCells, List.cons_append, List.nil_append, List.getElem?_cons_succ, List.getD_cons_succ]
    exact this
theorem stV_get {s : KSt} (h : s.length = 8) {a : Int} (ha : a.toNat < 8) : (stV s)[a.toNat * 2]? = some (.int .i64 (kg s a).bits) ∧ (stV s)[a.toNat * 2 + 1]? = some (.bool (kg s a).sec) := by
  have := kn_get s a.toNat (by omega)
  unfold stV kg
  simpa using this
theorem kn_set : ∀ (s : KSt) (a : Nat) (k : LKn), a < s.length → ((s.flatMap knCells).set (a * 2) (.int .i64 k.bits)).set (a * 2 + 1) (.bool k.sec) = (s.set a k).flatMap knCells
  | [], a, k, h => by simp at h
  | x :: s, 0, k, h => by simp [knCells]
  | x :: s, a + 1, k, h => by
    have := kn_set s a k (by simpa using h)
    rw [List.flatMap_cons, show (a + 1) * 2 = a * 2 + 2 by omega, show a * 2 + 2 + 1 = a * 2 + 1 + 2 by omega, List.set_cons_succ, List.flatMap_cons]
    simp only [knCells, List.cons_append, List.nil_append, List.set_cons_succ]
    rw [this]
theorem stV_set {s : KSt} (h : s.length = 8) {a : Int} (ha : a.toNat < 8) (k : LKn) : ((stV s).setIfInBounds (a.toNat * 2) (.int .i64 k.bits)).setIfInBounds (a.toNat * 2 + 1) (.bool k.sec) = stV (kset s a k) := by
  have := kn_set s a.toNat k (by omega)
  unfold stV kset
  rw [← this]
  simp
theorem stV_one (s : KSt) : (stV s).all (·.oneCell') = true := by
  unfold stV
  rw [Array.all_eq_true']
  intro u hu
  simp only [List.mem_toArray, List.mem_flatMap, knCells, List.mem_cons, List.not_mem_nil, or_false] at hu
  obtain ⟨k, -, rfl | rfl⟩ := hu <;> rfl
theorem stV_inj : ∀ {s t : KSt}, s.length = t.length → stV s = stV t → s = t := by
  intro s t hl h
  apply List.ext_getElem hl
  intro j h1 h2
  have e : s.flatMap knCells = t.flatMap knCells := by unfold stV at h; simpa using h
  obtain ⟨a1, a2⟩ := kn_get s j h1
  obtain ⟨b1, b2⟩ := kn_get t j h2
  rw [e, b1] at a1
  rw [e, b2] at a2
  simp only [Option.some.injEq, Value.int.injEq, true_and, Value.bool.injEq] at a1 a2
  have e1 : s.getD j default = s[j] := by simp [h1]
  have e2 : t.getD j default = t[j] := by simp [h2]
  rw [e1, e2] at a1
  rw [e1, e2] at a2
  cases hs : s[j]
  cases ht : t[j]
  rw [hs, ht] at a1 a2
  simp only at a1 a2
  rw [a1, a2]
section
variable {w w' : World} {k : Nat} {s : KSt}
/-- a register's cells -/
theorem st_cell (h : Blk w k 80 (stV s)) (hl : s.length = 8) {a : Int} (ha : okIn 8 a = true) :
    (w.cell? ⟨k, a.toNat * 2, none⟩ = some (.int .i64 (kg s a).bits) ∧ w.frozen? ⟨k, a.toNat * 2, none⟩ = false) ∧ (w.cell? ⟨k, a.toNat * 2 + 1, none⟩ = some (.bool (kg s a).sec) ∧ w.frozen? ⟨k, a.toNat * 2 + 1, none⟩ = false) := by
  obtain ⟨h0, h1⟩ := okIn_iff.1 ha
  obtain ⟨g1, g2⟩ := stV_get hl (a := a) (by omega)
  exact ⟨⟨by rw [h.cell, g1], h.frozen _⟩, ⟨by rw [h.cell, g2], h.frozen _⟩⟩
/-- a register put -/
theorem st_put (h : Blk w k 80 (stV s)) (hl : s.length = 8) {a : Int} (ha : okIn 8 a = true) (x : LKn) :
    Blk ((w.setCell ⟨k, a.toNat * 2, none⟩ (.int .i64 x.bits)).setCell ⟨k, a.toNat * 2 + 1, none⟩ (.bool x.sec)) k 80 (stV (kset s a x)) := by
  obtain ⟨h0, h1⟩ := okIn_iff.1 ha
  rw [← stV_set hl (by omega) x]
  exact (h.set_ _ _).set_ _ _
end

/-- the table of states: row R of n pointers at block ks; its states in blocks of the call's own, from block B on -/
def RowAt (w : World) (B ks n : Nat) (T : Tab) : Prop :=
  ∃ R : Array Value, Blk w ks 81 R ∧ R.size = n ∧ ∀ j, j < n → match tg T j with
    | none => R[j]? = some (.pointer none)
    | some s => ∃ k, R[j]? = some (.pointer (some ⟨k, 0, none⟩)) ∧ B ≤ k ∧ Blk w k 80 (stV s)
theorem RowAt.ext {w w' : World} {B ks n : Nat} {T : Tab} (h : RowAt w B ks n T) (hx : Ext w w') : RowAt w' B ks n T := by
  obtain ⟨R, h1, h2, h3⟩ := h
  refine ⟨R, h1.ext hx, h2, fun j hj => ?_⟩
  have := h3 j hj
  cases ht : tg T j with
  | none => rw [ht] at this; exact this
  | some s =>
    rw [ht] at this
    obtain ⟨k, e1, e2, e3⟩ := this
    exact ⟨k, e1, e2, e3.ext hx⟩
/-- a state put: its block is one of the call's own -/
theorem RowAt.put {w : World} {B ks n k at_ : Nat} {T : Tab} {s : KSt} (h : RowAt w B ks n T) (hT : T.length = n) (hat : at_ < n) (hB : B ≤ k) (hk : Blk w k 80 (stV s)) :
    RowAt (w.setCell ⟨ks, at_, none⟩ (.pointer (some ⟨k, 0, none⟩))) B ks n (T.set at_ (some s)) := by
  obtain ⟨R, h1, h2, h3⟩ := h
  refine ⟨_, h1.set_ at_ _, by simpa using h2, fun j hj => ?_⟩
  have far : ∀ {k' : Nat} {u : KSt}, Blk w k' 80 (stV u) → Blk (w.setCell ⟨ks, at_, none⟩ (.pointer (some ⟨k, 0, none⟩))) k' 80 (stV u) := fun hb => hb.far (p := ⟨ks, at_, none⟩) (Blk.ne_ hb h1 (by decide)) _
  rw [tg_set]
  by_cases e : at_ = j
  · subst e
    rw [if_pos ⟨rfl, by omega⟩]
    exact ⟨k, by simp [h2, hat], hB, far hk⟩
  · rw [if_neg (by omega)]
    have := h3 j hj
    cases ht : tg T j with
    | none => rw [ht] at this; simpa [Array.getElem?_setIfInBounds, e] using this
    | some u =>
      rw [ht] at this
      obtain ⟨k', e1, e2, e3⟩ := this
      exact ⟨k', by simpa [Array.getElem?_setIfInBounds, e] using e1, e2, far e3⟩
theorem RowAt.far {w : World} {B ks n : Nat} {T : Tab} (h : RowAt w B ks n T) {p : Addr} {t : TypeId} {cs : Array Value} (hp : Blk w p.block t cs) (h1 : t ≠ 81) (h2 : t ≠ 80) (u : Value) : RowAt (w.setCell p u) B ks n T := by
  obtain ⟨R, e1, e2, e3⟩ := h
  refine ⟨R, e1.far (Blk.ne_ e1 hp (fun e => h1 e.symm)) u, e2, fun j hj => ?_⟩
  have := e3 j hj
  cases ht : tg T j with
  | none => rw [ht] at this; exact this
  | some s =>
    rw [ht] at this
    obtain ⟨k, f1, f2, f3⟩ := this
    exact ⟨k, f1, f2, f3.far (Blk.ne_ f3 hp (fun e => h2 e.symm)) u⟩
theorem RowAt.grown {w w' : World} {B ks n m : Nat} {T : Tab} {D : Nat} {v : Value} {xs : List Value} (h : RowAt w B ks n T) (hu : w.ownsRow D 3 1 v m xs) (hg : w.grownBy w' v.ownBlock) : RowAt w' B ks n T := by
  obtain ⟨R, e1, e2, e3⟩ := h
  refine ⟨R, e1.grown hg (own_ne hu e1 (by decide)), e2, fun j hj => ?_⟩
  have := e3 j hj
  cases ht : tg T j with
  | none => rw [ht] at this; exact this
  | some s =>
    rw [ht] at this
    obtain ⟨k, f1, f2, f3⟩ := this
    exact ⟨k, f1, f2, f3.grown hg (own_ne hu f3 (by decide))⟩

/-- the checker at block g, its table at block ks -/
structure CSt (w : World) (B g ks : Nat) (vR vC vK : Value) (p : LProg) (T : Tab) (wk : List Int) : Prop where
  box : Blk w g 75 #[vR, vC, .slice (some ⟨ks, 0, none⟩) p.code.length p.code.length, vK]
  row : RowAt w B ks p.code.length T
  wk : w.ownsRow B 3 1 vK wk.length (wk.map (Value.int .i64))
  tok : Tok p T
  hg : B ≤ g
  hk : B ≤ ks
section
variable {w w' : World} {B g ks : Nat} {vR vC vK : Value} {p : LProg} {T : Tab} {wk : List Int}
theorem CSt.ext (h : CSt w B g ks vR vC vK p T wk) (hx : Ext w w') : CSt w' B g ks vR vC vK p T wk := ⟨h.box.ext hx, h.row.ext hx, own_ext h.wk hx, h.tok, h.hg, h.hk⟩
theorem CSt.size (h : CSt w B g ks vR vC vK p T wk) : B ≤ w.heap.size := by have := h.box.lt; have := h.hg; omega
theorem CSt.cells (h : CSt w B g ks vR vC vK p T wk) : (w.cell? ⟨g, 0, none⟩ = some vR ∧ w.frozen? ⟨g, 0, none⟩ = false) ∧ (w.cell? ⟨g, 1, none⟩ = some vC ∧ w.frozen? ⟨g, 1, none⟩ = false) ∧
    (w.cell? ⟨g, 2, none⟩ = some (.slice (some ⟨ks, 0, none⟩) p.code.length p.code.length) ∧ w.frozen? ⟨g, 2, none⟩ = false) ∧ (w.cell? ⟨g, 3, none⟩ = some vK ∧ w.frozen? ⟨g, 3, none⟩ = false) := by
  refine ⟨⟨?_, h.box.frozen _⟩, ⟨?_, h.box.frozen _⟩, ⟨?_, h.box.frozen _⟩, ⟨?_, h.box.frozen _⟩⟩ <;> (rw [h.box.cell]; rfl)
/-- a state led to: put -/
theorem CSt.put (h : CSt w B g ks vR vC vK p T wk) {k at_ : Nat} {s : KSt} (hat : at_ < p.code.length) (hB : B ≤ k) (hk : Blk w k 80 (stV s)) (hs : Sok s) :
    CSt (w.setCell ⟨ks, at_, none⟩ (.pointer (some ⟨k, 0, none⟩))) B g ks vR vC vK p (T.set at_ (some s)) wk := by
  obtain ⟨R, r1, r2, r3⟩ := h.row
  refine ⟨h.box.far (p := ⟨ks, at_, none⟩) (Blk.ne_ h.box r1 (by decide)) _, h.row.put h.tok.len hat hB hk, own_far h.wk (own_ne h.wk r1 (by decide)) _, ⟨by simpa using h.tok.len, fun j u hu => ?_⟩, h.hg, h.hk⟩
  rw [tg_set] at hu
  split at hu
  · simp only [Option.some.injEq] at hu; subst hu; exact hs
  · exact h.tok.ok j u hu
/-- work more, or less: behind the append, and its store -/
theorem CSt.work (h : CSt w B g ks vR vC vK p T wk) {vK' : Value} {wk' : List Int} (hg : w.grownBy w' vK.ownBlock) (ho : w'.ownsRow B 3 1 vK' wk'.length (wk'.map (Value.int .i64))) :
    CSt (w'.setCell ⟨g, 3, none⟩ vK') B g ks vR vC vK' p T wk' := by
  have hb := h.box.grown hg (own_ne h.wk h.box (by decide))
  have hne : some g ≠ vK'.ownBlock := own_ne ho hb (by decide)
  exact ⟨hb.set_ 3 vK', (h.row.grown h.wk hg).far (p := ⟨g, 3, none⟩) hb (by decide) (by decide) _, own_far ho hne _, h.tok, h.hg, h.hk⟩
theorem CSt.row_at (h : CSt w B g ks vR vC vK p T wk) {j : Nat} (hj : j < p.code.length) : (tg T j = none → w.cell? ⟨ks, j, none⟩ = some (.pointer none) ∧ w.frozen? ⟨ks, j, none⟩ = false) ∧
    (∀ s, tg T j = some s → ∃ k, (w.cell? ⟨ks, j, none⟩ = some (.pointer (some ⟨k, 0, none⟩)) ∧ w.frozen? ⟨ks, j, none⟩ = false) ∧ B ≤ k ∧ Blk w k 80 (stV s)) := by
  obtain ⟨R, r1, r2, r3⟩ := h.row
  have := r3 j hj
  refine ⟨fun ht => ?_, fun s ht => ?_⟩
  · rw [ht] at this
    exact ⟨by rw [r1.cell, this], r1.frozen _⟩
  · rw [ht] at this
    obtain ⟨k, e1, e2, e3⟩ := this
    exact ⟨k, ⟨by rw [r1.cell, e1], r1.frozen _⟩, e2, e3⟩
end
/-- what a lead makes of the table, and of the work -/
def leadT (p : LProg) (T : Tab) (at_ : Nat) (s : KSt) : Tab := if p.code.length ≤ at_ then T else joinT T (at_, s)
def leadW (p : LProg) (T : Tab) (wk : List Int) (at_ : Nat) (s : KSt) : List Int :=
  if p.code.length ≤ at_ then wk else match tg T at_ with
    | none => wk ++ [(at_ : Int)]
    | some t => if sjoin s t = t then wk else wk ++ [(at_ : Int)]
end Go.Proofs.Yteiknefajlocoaa
/- Package known: walks. -/
namespace Go.Proofs.Yteiknefajlocoaa
open Go.ChangeShapes Go.WideShapes Go.ChangeAt Go.RowKit

theorem infoKnown : (Try.prog.info? 78).map (·.size) = some 2 := by kernel_rfl
theorem ret_k {a b : Int} {s t : Bool} (h1 : a = b) (h2 : s = t) : Ending.returned (.agg #[.int .i64 a, .bool s]) = .returned (.agg #[.int .i64 b, .bool t]) := by rw [h1, h2]

set_option maxHeartbeats 1000000 in
theorem norm_c (b : Int) (s : Bool) (w : World) :
    Calls Try.prog 123 #[.agg #[.int .i64 b, .bool s]] w fun e w' => e = .returned (.agg #[.int .i64 (nrm b), .bool s]) ∧ Ext w w' := by
  by_cases h : b < 0 ∨ 17 < b
  · have hn : nrm b = 17 := by unfold nrm; rw [if_pos h]
    have Hn := Lib.hid hn
    clear hn
    by_cases h0 : b < 0
    · go_enter Try.func123, Try.ntmps123
      go_wp2
      exact bodyPost_ret (v := .agg #[.int .i64 17, .bool s]) (by simp [results, Try.results123, go_sem]) rfl ⟨ret_k Hn.out.symm rfl, ((Ext.refl _).alloc _).alloc _⟩
    · have h1 : 17 < b := by omega
      clear h
      go_enter Try.func123, Try.ntmps123
      go_wp2
      exact bodyPost_ret (v := .agg #[.int .i64 17, .bool s]) (by simp [results, Try.results123, go_sem]) rfl ⟨ret_k Hn.out.symm rfl, ((Ext.refl _).alloc _).alloc _⟩
  · have hn : nrm b = b := by unfold nrm; rw [if_neg h]
    have Hn := Lib.hid hn
    have h0 : 0 ≤ b := by omega
    have h1 : b ≤ 17 := by omega
    clear hn h
    go_enter Try.func123, Try.ntmps123
    go_wp2
    exact bodyPost_ret (v := .agg #[.int .i64 b, .bool s]) (by simp [results, Try.results123, go_sem]) rfl ⟨ret_k Hn.out.symm rfl, ((Ext.refl _).alloc _).alloc _⟩

/-- three new blocks of two cells: what there is to know of them -/
theorem three_new (w : World) (T : TypeId) (a0 a1 b0 b1 c0 c1 : Value) : ∃ W g, w.heap.size = g ∧ ((w.alloc (.cells #[a0, a1] T)).alloc (.cells #[b0, b1] T)).alloc (.cells #[c0, c1] T) = W ∧ Ext w W ∧
    (W.cell? ⟨g, 0, none⟩ = some a0 ∧ W.frozen? ⟨g, 0, none⟩ = false) ∧ (W.cell? ⟨g, 1, none⟩ = some a1 ∧ W.frozen? ⟨g, 1, none⟩ = false) ∧
    (W.cell? ⟨g + 1, 0, none⟩ = some b0 ∧ W.frozen? ⟨g + 1, 0, none⟩ = false) ∧ (W.cell? ⟨g + 1, 1, none⟩ = some b1 ∧ W.frozen? ⟨g + 1, 1, none⟩ = false) ∧
    (W.cell? ⟨g + 1 + 1, 0, none⟩ = some c0 ∧ W.frozen? ⟨g + 1 + 1, 0, none⟩ = false) ∧ (W.cell? ⟨g + 1 + 1, 1, none⟩ = some c1 ∧ W.frozen? ⟨g + 1 + 1, 1, none⟩ = false) ∧ Blk W (g + 1 + 1) T #[c0, c1] := by
  refine ⟨_, _, rfl, rfl, (((Ext.refl _).alloc _).alloc _).alloc _, ?_⟩
  have h0 := ((Blk.new w T #[a0, a1]).alloc (.cells #[b0, b1] T)).alloc (.cells #[c0, c1] T)
  have h1 := (Blk.new (w.alloc (.cells #[a0, a1] T)) T #[b0, b1]).alloc (.cells #[c0, c1] T)
  have h2 := Blk.new ((w.alloc (.cells #[a0, a1] T)).alloc (.cells #[b0, b1] T)) T #[c0, c1]
  simp only [World.size_alloc] at h1 h2
  exact ⟨⟨by rw [h0.cell]; rfl, h0.frozen 0⟩, ⟨by rw [h0.cell]; rfl, h0.frozen 1⟩, ⟨by rw [h1.cell]; rfl, h1.frozen 0⟩, ⟨by rw [h1.cell]; rfl, h1.frozen 1⟩, ⟨by rw [h2.cell]; rfl, h2.frozen 0⟩, ⟨by rw [h2.cell]; rfl, h2.frozen 1⟩, h2⟩

/-- what stands behind 'a, b = norm(a), norm(b)' -/
def Normed (w wx : World) (g : Nat) (b c : Int) (s t : Bool) : Prop :=
  Ext w wx ∧ (wx.cell? ⟨g, 0, none⟩ = some (.int .i64 (nrm b)) ∧ wx.frozen? ⟨g, 0, none⟩ = false) ∧ (wx.cell? ⟨g, 1, none⟩ = some (.bool s) ∧ wx.frozen? ⟨g, 1, none⟩ = false) ∧
    (wx.cell? ⟨g + 1, 0, none⟩ = some (.int .i64 (nrm c)) ∧ wx.frozen? ⟨g + 1, 0, none⟩ = false) ∧ (wx.cell? ⟨g + 1, 1, none⟩ = some (.bool t) ∧ wx.frozen? ⟨g + 1, 1, none⟩ = false) ∧
    (wx.cell? ⟨g + 1 + 1, 0, none⟩ = some (.int .i64 0) ∧ wx.frozen? ⟨g + 1 + 1, 0, none⟩ = false) ∧ (wx.cell? ⟨g + 1 + 1, 1, none⟩ = some (.bool false) ∧ wx.frozen? ⟨g + 1 + 1, 1, none⟩ = false)
theorem normed {w w1 : World} {g : Nat} {b c x y : Int} {s s' t t' : Bool} (hg : w.heap.size ≤ g) (hE : Ext w w1) (p0 : w1.cell? ⟨g, 0, none⟩ = some (.int .i64 x) ∧ w1.frozen? ⟨g, 0, none⟩ = false) (p1 : w1.cell? ⟨g, 1, none⟩ = some (.bool s') ∧ w1.frozen? ⟨g, 1, none⟩ = false)
    (p2 : w1.cell? ⟨g + 1, 0, none⟩ = some (.int .i64 y) ∧ w1.frozen? ⟨g + 1, 0, none⟩ = false) (p3 : w1.cell? ⟨g + 1, 1, none⟩ = some (.bool t') ∧ w1.frozen? ⟨g + 1, 1, none⟩ = false)
    (p4 : w1.cell? ⟨g + 1 + 1, 0, none⟩ = some (.int .i64 0) ∧ w1.frozen? ⟨g + 1 + 1, 0, none⟩ = false) (p5 : w1.cell? ⟨g + 1 + 1, 1, none⟩ = some (.bool false) ∧ w1.frozen? ⟨g + 1 + 1, 1, none⟩ = false) :
    Normed w ((((w1.setCell ⟨g, 0, none⟩ (.int .i64 (nrm b))).setCell ⟨g, 1, none⟩ (.bool s)).setCell ⟨g + 1, 0, none⟩ (.int .i64 (nrm c))).setCell ⟨g + 1, 1, none⟩ (.bool t)) g b c s t := by
  refine ⟨(((hE.setCell hg _).setCell hg _).setCell (by simp; omega) _).setCell (by simp; omega) _, ?_, ?_, ?_, ?_, ?_, ?_⟩
  · exact kept_set (by simp) (kept_set (by simp) (kept_set (by simp) (set_same p0)))
  · exact kept_set (by simp) (kept_set (by simp) (set_same (kept_set (by simp) p1)))
  · exact kept_set (by simp) (set_same (kept_set (by simp) (kept_set (by simp) p2)))
  · exact set_same (kept_set (by simp) (kept_set (by simp) (kept_set (by simp) p3)))
  · exact kept_set (by simp) (kept_set (by simp) (kept_set (by simp) (kept_set (by simp) p4)))
  · exact kept_set (by simp) (kept_set (by simp) (kept_set (by simp) (kept_set (by simp) p5)))

set_option maxHeartbeats 2000000 in
theorem join_c (b c : Int) (s t : Bool) (w : World) :
    Calls Try.prog 87 #[.agg #[.int .i64 b, .bool s], .agg #[.int .i64 c, .bool t]] w fun e w' => e = .returned (.agg #[.int .i64 (max (nrm b) (nrm c)), .bool (s || t)]) ∧ Ext w w' := by
  go_enter Try.func87, Try.ntmps87
  go_wp2
  obtain ⟨W, g, hg, hW, hE, p0, p1, p2, p3, p4, p5, _⟩ := three_new w 78 (.int .i64 b) (.bool s) (.int .i64 c) (.bool t) (.int .i64 0) (.bool false)
  rw [hW, hg]
  have hgs : w.heap.size ≤ g := by omega
  clear hW hg
  go_cut [] (fun wx => Normed w wx g b c s t)
  case first =>
    go_region_with (go_at_call 123; refine (norm_c _ _ _).mono ?_; rintro e w1 ⟨rfl, hx⟩; have p0 := kept2 hx p0; have p1 := kept2 hx p1; have p2 := kept2 hx p2; have p3 := kept2 hx p3; have p4 := kept2 hx p4; have p5 := kept2 hx p5)
    all_goals (go_wp2_with fail; go_meet; refine normed hgs ?_ p0 p1 p2 p3 p4 p5)
    all_goals (repeat' first | (with_reducible exact Ext.refl _) | (with_reducible assumption) | (with_reducible refine Ext.drew ?_) | (with_reducible refine Ext.drewN ?_ _) | (with_reducible refine Ext.alloc ?_ _) | (with_reducible refine Ext.setCell ?_ (by first | (simp; done) | (simp; omega) | omega) _) | (with_reducible refine Ext.trans ?_ (by with_reducible assumption)))
  case rest =>
    obtain ⟨hX, q0, q1, q2, q3, q4, q5⟩ := hcut
    have hgx := hX.size
    cases s
    all_goals go_wp2
    all_goals refine bodyPost_ret (results_two (by repeat' first | (with_reducible exact some_of q4) | (with_reducible refine some_set ?_)) (by repeat' first | (with_reducible exact some_of q5) | (with_reducible refine some_set ?_)) rfl _ rfl Try.underlying78 rfl infoKnown) rfl ⟨ret_k (by omega) rfl, ?_⟩
    all_goals (repeat' first | (with_reducible exact Ext.refl _) | (with_reducible assumption) | (with_reducible refine Ext.drew ?_) | (with_reducible refine Ext.drewN ?_ _) | (with_reducible refine Ext.alloc ?_ _) | (with_reducible refine Ext.setCell ?_ (by first | (simp; done) | (simp; omega) | omega) _) | (with_reducible refine Ext.trans ?_ (by with_reducible assumption)))

set_option maxHeartbeats 2000000 in
theorem less_c (b c : Int) (s t : Bool) (w : World) :
    Calls Try.prog 91 #[.agg #[.int .i64 b, .bool s], .agg #[.int .i64 c, .bool t]] w fun e w' => e = .returned (.agg #[.int .i64 (min (nrm b) (nrm c)), .bool s]) ∧ Ext w w' := by
  go_enter Try.func91, Try.ntmps91
  go_wp2
  obtain ⟨W, g, hg, hW, hE, p0, p1, p2, p3, p4, p5, _⟩ := three_new w 78 (.int .i64 b) (.bool s) (.int .i64 c) (.bool t) (.int .i64 0) (.bool false)
  rw [hW, hg]
  have hgs : w.heap.size ≤ g := by omega
  clear hW hg
  go_cut [] (fun wx => Normed w wx g b c s t)
  case first =>
    go_region_with (go_at_call 123; refine (norm_c _ _ _).mono ?_; rintro e w1 ⟨rfl, hx⟩; have p0 := kept2 hx p0; have p1 := kept2 hx p1; have p2 := kept2 hx p2; have p3 := kept2 hx p3; have p4 := kept2 hx p4; have p5 := kept2 hx p5)
    all_goals (go_wp2_with fail; go_meet; refine normed hgs ?_ p0 p1 p2 p3 p4 p5)
    all_goals (repeat' first | (with_reducible exact Ext.refl _) | (with_reducible assumption) | (with_reducible refine Ext.drew ?_) | (with_reducible refine Ext.drewN ?_ _) | (with_reducible refine Ext.alloc ?_ _) | (with_reducible refine Ext.setCell ?_ (by first | (simp; done) | (simp; omega) | omega) _) | (with_reducible refine Ext.trans ?_ (by with_reducible assumption)))
  case rest =>
    obtain ⟨hX, q0, q1, q2, q3, q4, q5⟩ := hcut
    have hgx := hX.size
    go_wp2
    all_goals refine bodyPost_ret (results_two (by repeat' first | (with_reducible exact some_of q4) | (with_reducible refine some_set ?_)) (by repeat' first | (with_reducible exact some_of q5) | (with_reducible refine some_set ?_)) rfl _ rfl Try.underlying78 rfl infoKnown) rfl ⟨ret_k (by omega) rfl, ?_⟩
    all_goals (repeat' first | (with_reducible exact Ext.refl _) | (with_reducible assumption) | (with_reducible refine Ext.drew ?_) | (with_reducible refine Ext.drewN ?_ _) | (with_reducible refine Ext.alloc ?_ _) | (with_reducible refine Ext.setCell ?_ (by first | (simp; done) | (simp; omega) | omega) _) | (with_reducible refine Ext.trans ?_ (by with_reducible assumption)))
end Go.Proofs.Yteiknefajlocoaa
/- A contract of the library's shelf at this seat's program (printed by the kit's lay-shelf.mjs and lay-plain.mjs; numbers by name). -/
namespace Go.Proofs
open Go.Shelf
def Try.lays129_ren : Go.Shelf.Ren := ⟨fun | 129 => 124 | n => n, fun | 53 => 160 | 3 => 3 | 4 => 4 | 46 => 153 | 5 => 5 | 9 => 9 | n => n, fun | n => n⟩
theorem Try.lays129 : Go.Proofs.Lays.n129 Try.prog Try.lays129_ren := {
  mixed := by kernel_rfl
  f129 := Try.func124.trans (congrArg some (by kernel_rfl))
  t3 := Try.underlying3
  a3 := Try.isAgg3
  z3 := Try.sizeOf3
  v3 := Try.zeroValue3
  t4 := Try.underlying4
  a4 := Try.isAgg4
  z4 := Try.sizeOf4
  v4 := Try.zeroValue4
  t5 := Try.underlying5
  a5 := Try.isAgg5
  z5 := Try.sizeOf5
  v5 := Try.zeroValue5
  t9 := Try.underlying9
  a9 := Try.isAgg9
  z9 := Try.sizeOf9
  v9 := Try.zeroValue9
  t46 := Try.underlying153
  a46 := Try.isAgg153
  z46 := Try.sizeOf153
  v46 := Try.zeroValue153
  t53 := Try.underlying160
  a53 := Try.isAgg160
  z53 := Try.sizeOf160
  v53 := Try.zeroValue160 }
theorem Try.bits_Len64 (x : Int) (w : World) (h0 : 0 ≤ x) (h1 : x ≤ 18446744073709551615) :
    Calls Try.prog 124 #[.int .u64 x] w fun e w' => e = .returned (.int .i64 (Lib.bitLen x.toNat)) ∧ w' = w := Any.bits_Len64 Try.lays129 x w h0 h1
end Go.Proofs
/- Walk of known.Of, by itself. -/
namespace Go.Proofs.Yteiknefajlocoaa
open Go.ChangeShapes Go.WideShapes Go.ChangeAt Go.RowKit

/-- a result of two cells, whose block is the last -/
theorem res_new {w : World} {fn : Func} {p : Tmp} {a0 a1 : Value} (hr : fn.results = #[.cell p 78]) (tmps : Array Value) (hp : tmps.getD p undef = .pointer (some ⟨w.heap.size, 0, none⟩)) :
    (results fn tmps).run Try.prog (w.alloc (.cells #[a0, a1] 78)) = .ok (.agg #[a0, a1]) (w.alloc (.cells #[a0, a1] 78)) :=
  results_blk (Blk.new w 78 #[a0, a1]) hr tmps hp Try.underlying78 rfl infoKnown

set_option maxHeartbeats 1000000 in
theorem kOf_c (n : Int) (w : World) :
    Calls Try.prog 89 #[.int .i64 n] w fun e w' => e = .returned (.agg #[.int .i64 (kof n), .bool false]) ∧ Ext w w' := by
  have Hk : Hid (kof n = if n < 0 ∨ 65536 ≤ n then (17 : Int) else ((Lib.bitLen n.toNat : Nat) : Int)) := rfl
  by_cases h0 : n < 0
  · go_enter Try.func89, Try.ntmps89
    go_wp2
    exact bodyPost_ret (v := .agg #[.int .i64 17, .bool false]) (by simp [results, Try.results89, go_sem]) rfl ⟨ret_k (by rw [Hk.out, if_pos (.inl h0)]) rfl, (Ext.refl _).alloc _⟩
  by_cases h1 : 65536 ≤ n
  · go_enter Try.func89, Try.ntmps89
    go_wp2
    exact bodyPost_ret (v := .agg #[.int .i64 17, .bool false]) (by simp [results, Try.results89, go_sem]) rfl ⟨ret_k (by rw [Hk.out, if_pos (.inr h1)]) rfl, (Ext.refl _).alloc _⟩
  have hu : IntKind.u64.wrap n = n := IntWalk.u64_in n (by omega)
  go_enter Try.func89, Try.ntmps89
  go_wp2_with (go_at_call 124; refine (Try.bits_Len64 n _ (by omega) (by omega)).mono ?_; rintro e w' ⟨rfl, rfl⟩)
  exact bodyPost_ret (v := .agg #[.int .i64 (Lib.bitLen n.toNat : Nat), .bool false]) (by simp [results, Try.results89, go_sem]) rfl ⟨ret_k (by rw [Hk.out, if_neg (by omega)]) rfl, (Ext.refl _).alloc _⟩
end Go.Proofs.Yteiknefajlocoaa
