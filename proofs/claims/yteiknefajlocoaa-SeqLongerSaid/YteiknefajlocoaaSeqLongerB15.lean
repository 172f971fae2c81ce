/- Laid together from: Seq1, Seq2. -/
import Derived.Test.YteiknefajlocoaaSeqLongerB14

/- The program's running machine in memory: what each of its writes does to it. -/
namespace Go.Proofs.Yteiknefajlocoaa
open Go.ChangeShapes Go.WideShapes Go.ChangeAt Go.RowKit
set_option linter.unusedVariables false
set_option linter.unusedSimpArgs false

/-- of what was there only blocks of S may have turned -/
structure Turn (S : Nat → Prop) (w w' : World) : Prop where
  os : w'.os = w.os
  tape : w'.tape = w.tape
  output : w'.output = w.output
  size : w.heap.size ≤ w'.heap.size
  block : ∀ j, j < w.heap.size → ¬ S j → w'.heap[j]? = w.heap[j]?
section
variable {S S' : Nat → Prop} {w w' w'' : World}
theorem Turn.ofExt (h : Ext w w') : Turn S w w' := ⟨h.os, h.tape, h.output, h.size, fun j hj _ => Below.block h j hj⟩
theorem Turn.refl (w : World) : Turn S w w := Turn.ofExt (Ext.refl w)
theorem Turn.trans (h : Turn S w w') (k : Turn S' w' w'') (hs : ∀ j, j < w.heap.size → S' j → S j) : Turn S w w'' :=
  ⟨k.os.trans h.os, k.tape.trans h.tape, k.output.trans h.output, Nat.le_trans h.size k.size, fun j hj hn => (k.block j (Nat.lt_of_lt_of_le hj h.size) (fun e => hn (hs j hj e))).trans (h.block j hj hn)⟩
theorem Turn.ext (h : Turn S w w') (k : Ext w' w'') : Turn S w w'' := h.trans (Turn.ofExt (S := S) k) (fun _ _ e => e)
theorem Turn.grown {row : Option Nat} (h : w.grownBy w' row) : Turn (fun j => row = some j) w w' := ⟨h.os, h.tape, h.output, h.size, fun j hj hn => h.block j hj (fun e => hn e.symm)⟩
theorem Turn.set (w : World) (p : Addr) (u : Value) : Turn (fun j => j = p.block) w (w.setCell p u) := ⟨rfl, rfl, rfl, by simp [World.setCell], fun j hj hn => Below.heap_setCell w p u j hn⟩
theorem Turn.mono (h : Turn S w w') (hs : ∀ j, S j → S' j) : Turn S' w w' := ⟨h.os, h.tape, h.output, h.size, fun j hj hn => h.block j hj (fun e => hn (hs j e))⟩
theorem Turn.below {B : Nat} (h : Turn S w w') (hB : B ≤ w.heap.size) (hs : ∀ j, S j → B ≤ j) : Below B w w' :=
  ⟨h.os, h.tape, h.output, h.size, fun j hj => h.block j (Nat.lt_of_lt_of_le hj hB) (fun e => by have := hs j e; omega)⟩
theorem Blk.turn {g : Nat} {t : TypeId} {cs : Array Value} (h : Blk w g t cs) (ht : Turn S w w') (hn : ¬ S g) : Blk w' g t cs := (ht.block g h.lt hn).trans h
theorem own_turn {base : Nat} {e : TypeId} {size n : Nat} {v : Value} {xs : List Value} (h : w.ownsRow base e size v n xs) (ht : Turn S w w') (hn : ∀ k, v.ownBlock = some k → ¬ S k) : w'.ownsRow base e size v n xs := by
  refine ⟨h.1, ?_⟩
  rcases h.2 with h | ⟨g, cap, cur, rfl, h1, h2, h3⟩
  · exact .inl h
  · exact .inr ⟨g, cap, cur, rfl, h1, (ht.block g (Array.getElem?_eq_some_iff.1 h2).1 (hn g rfl)).trans h2, h3⟩
end

/-- the cells of a machine -/
def machL (vR vC : Value) (fin value : Int) (steps : Nat) (vS vM : Value) (regs : List Int) (vW : Value) (at_ : Nat) (vB : Value) : List Value :=
  [vR, vC, .int .i64 fin, .int .i64 value, .int .i64 steps, vS, vM] ++ (regs.map (Value.int .i64) ++ [vW, .int .i64 at_, vB])
section
variable {vR vC vS vM vW vB u : Value} {fin value x : Int} {steps at_ : Nat} {regs : List Int}
theorem mach_size (h : regs.length = 10) : (machL vR vC fin value steps vS vM regs vW at_ vB).toArray.size = 20 := by simp [machL, h]
theorem mach_reg (h : regs.length = 10) {a : Int} (ha : a.toNat < 10) : (machL vR vC fin value steps vS vM regs vW at_ vB).toArray[7 + a.toNat]? = some (.int .i64 (rg regs a)) := by
  have h2 : a.toNat < regs.length := by omega
  rw [List.getElem?_toArray]
  unfold machL
  rw [List.getElem?_append_right (by simp), List.getElem?_append_left (by simp; omega)]
  simp [rg, h2]
theorem mach_set_reg (h : regs.length = 10) {a : Int} (ha : a.toNat < 10) : (machL vR vC fin value steps vS vM regs vW at_ vB).toArray.setIfInBounds (7 + a.toNat) (.int .i64 x) = (machL vR vC fin value steps vS vM (rset regs a x) vW at_ vB).toArray := by
  have h2 : a.toNat < (regs.map (Value.int .i64)).length := by simp; omega
  rw [List.setIfInBounds_toArray]
  unfold machL rset
  rw [List.set_append_right _ _ (by simp), List.set_append_left _ _ (by simp; omega), List.map_set]
  simp
theorem mach_set_fin : (machL vR vC fin value steps vS vM regs vW at_ vB).toArray.setIfInBounds 2 (.int .i64 x) = (machL vR vC x value steps vS vM regs vW at_ vB).toArray := by simp [machL]
theorem mach_set_value : (machL vR vC fin value steps vS vM regs vW at_ vB).toArray.setIfInBounds 3 (.int .i64 x) = (machL vR vC fin x steps vS vM regs vW at_ vB).toArray := by simp [machL]
theorem mach_set_steps {k : Nat} : (machL vR vC fin value steps vS vM regs vW at_ vB).toArray.setIfInBounds 4 (.int .i64 (k : Int)) = (machL vR vC fin value k vS vM regs vW at_ vB).toArray := by simp [machL]
theorem mach_set_seen : (machL vR vC fin value steps vS vM regs vW at_ vB).toArray.setIfInBounds 5 u = (machL vR vC fin value steps u vM regs vW at_ vB).toArray := by simp [machL]
theorem mach_set_mem : (machL vR vC fin value steps vS vM regs vW at_ vB).toArray.setIfInBounds 6 u = (machL vR vC fin value steps vS u regs vW at_ vB).toArray := by simp [machL]
theorem mach_set_words (h : regs.length = 10) : (machL vR vC fin value steps vS vM regs vW at_ vB).toArray.setIfInBounds 17 u = (machL vR vC fin value steps vS vM regs u at_ vB).toArray := by simp [machL, List.set_append, h]
theorem mach_set_at (h : regs.length = 10) {k : Nat} : (machL vR vC fin value steps vS vM regs vW at_ vB).toArray.setIfInBounds 18 (.int .i64 (k : Int)) = (machL vR vC fin value steps vS vM regs vW k vB).toArray := by simp [machL, List.set_append, h]
theorem mach_set_bases (h : regs.length = 10) : (machL vR vC fin value steps vS vM regs vW at_ vB).toArray.setIfInBounds 19 u = (machL vR vC fin value steps vS vM regs vW at_ u).toArray := by simp [machL, List.set_append, h]
end

/-- a machine at block g: its rows are of the call's own, from block B on -/
structure MSt (w : World) (B g : Nat) (vR vC vM vB vS vW : Value) (bases : List Int) (M : Mach) : Prop where
  box : Blk w g 110 (machL vR vC M.fin M.value M.steps vS vM M.regs vW M.at_ vB).toArray
  sn : w.ownsRow B 98 3 vS M.seen.length (M.seen.flatMap seeCells)
  ws : w.ownsRow B 2 1 vW M.words.length (M.words.map (Value.int .i64))
  bs : w.ownsRow B 3 1 vB bases.length (bases.map (Value.int .i64))
  len : M.regs.length = 10
  hg : B ≤ g
section
variable {w w' : World} {B g : Nat} {vR vC vM vB vS vW : Value} {bases : List Int} {M : Mach}
theorem MSt.size (h : MSt w B g vR vC vM vB vS vW bases M) : B ≤ w.heap.size := by have := h.box.lt; have := h.hg; omega
theorem MSt.ext (h : MSt w B g vR vC vM vB vS vW bases M) (hx : Ext w w') : MSt w' B g vR vC vM vB vS vW bases M :=
  ⟨h.box.ext hx, own_ext h.sn hx, own_ext h.ws hx, own_ext h.bs hx, h.len, h.hg⟩
theorem MSt.gs (h : MSt w B g vR vC vM vB vS vW bases M) : some g ≠ vS.ownBlock := own_ne h.sn h.box (by decide)
theorem MSt.gw (h : MSt w B g vR vC vM vB vS vW bases M) : some g ≠ vW.ownBlock := own_ne h.ws h.box (by decide)
theorem MSt.gb (h : MSt w B g vR vC vM vB vS vW bases M) : some g ≠ vB.ownBlock := own_ne h.bs h.box (by decide)
/-- cells of its box put: what they hold now -/
theorem MSt.put (h : MSt w B g vR vC vM vB vS vW bases M) (i : Nat) (u : Value) {M' : Mach} (h1 : M'.seen = M.seen) (h2 : M'.words = M.words) (h3 : M'.regs.length = 10)
    (hc : (machL vR vC M.fin M.value M.steps vS vM M.regs vW M.at_ vB).toArray.setIfInBounds i u = (machL vR vC M'.fin M'.value M'.steps vS vM M'.regs vW M'.at_ vB).toArray) :
    MSt (w.setCell ⟨g, i, none⟩ u) B g vR vC vM vB vS vW bases M' :=
  ⟨by rw [← hc]; exact h.box.set_ i u, by rw [h1]; exact own_far h.sn h.gs u, by rw [h2]; exact own_far h.ws h.gw u, own_far h.bs h.gb u, h3, h.hg⟩
theorem MSt.fin_ (h : MSt w B g vR vC vM vB vS vW bases M) (x : Int) : MSt (w.setCell ⟨g, 2, none⟩ (.int .i64 x)) B g vR vC vM vB vS vW bases { M with fin := x } := h.put 2 _ rfl rfl h.len mach_set_fin
theorem MSt.value_ (h : MSt w B g vR vC vM vB vS vW bases M) (x : Int) : MSt (w.setCell ⟨g, 3, none⟩ (.int .i64 x)) B g vR vC vM vB vS vW bases { M with value := x } := h.put 3 _ rfl rfl h.len mach_set_value
theorem MSt.steps_ (h : MSt w B g vR vC vM vB vS vW bases M) (k : Nat) : MSt (w.setCell ⟨g, 4, none⟩ (.int .i64 (k : Int))) B g vR vC vM vB vS vW bases { M with steps := k } := h.put 4 _ rfl rfl h.len mach_set_steps
theorem MSt.at__ (h : MSt w B g vR vC vM vB vS vW bases M) (k : Nat) : MSt (w.setCell ⟨g, 18, none⟩ (.int .i64 (k : Int))) B g vR vC vM vB vS vW bases { M with at_ := k } := h.put 18 _ rfl rfl h.len (mach_set_at h.len)
theorem MSt.reg_ (h : MSt w B g vR vC vM vB vS vW bases M) {a : Int} (ha : okIn 10 a = true) (x : Int) : MSt (w.setCell ⟨g, 7 + a.toNat, none⟩ (.int .i64 x)) B g vR vC vM vB vS vW bases { M with regs := rset M.regs a x } := by
  obtain ⟨h0, h1⟩ := okIn_iff.1 ha
  exact h.put _ _ rfl rfl (by rw [rset_len]; exact h.len) (mach_set_reg h.len (by omega))
/-- something shown: behind the append, and its store -/
theorem MSt.show_ (h : MSt w B g vR vC vM vB vS vW bases M) {vS' : Value} {s : List LSee} (hg : w.grownBy w' vS.ownBlock) (ho : w'.ownsRow B 98 3 vS' s.length (s.flatMap seeCells)) :
    MSt (w'.setCell ⟨g, 5, none⟩ vS') B g vR vC vM vB vS' vW bases { M with seen := s } := by
  have hb := h.box.grown hg h.gs
  have hne : some g ≠ vS'.ownBlock := own_ne ho hb (by decide)
  have hw := own_grown h.ws hg (fun k hk he => own_ne2 h.sn h.ws (by decide) k hk he)
  have hbs := own_grown h.bs hg (fun k hk he => own_ne2 h.sn h.bs (by decide) k hk he)
  exact ⟨by rw [← mach_set_seen (u := vS')]; exact hb.set_ 5 vS', own_far ho hne _, own_far hw h.gw _, own_far hbs h.gb _, h.len, h.hg⟩
/-- a word put -/
theorem MSt.word (h : MSt w B g vR vC vM vB vS vW bases M) {x k cap : Nat} (hv : vW = .slice (some ⟨k, 0, none⟩) M.words.length cap) (z : Int) :
    MSt (w.setCell ⟨k, x, none⟩ (.int .i64 z)) B g vR vC vM vB vS vW bases { M with words := M.words.set x z } := by
  subst hv
  have hws := h.ws
  have hkg := h.gw
  have hset := set_grown w ⟨k, x, none⟩ (.int .i64 z)
  refine ⟨h.box.far (p := ⟨k, x, none⟩) (by intro e; exact hkg (by simp [Value.ownBlock, e])) _, own_grown h.sn hset (fun j e he => own_ne2 h.sn h.ws (by decide) j he (by simpa [Value.ownBlock] using e)), ?_,
    own_grown h.bs hset (fun j e he => own_ne2 h.bs h.ws (by decide) j he (by simpa [Value.ownBlock] using e)), h.len, h.hg⟩
  have := (hws.stored x (.int .i64 z)).1
  simp only [List.length_set]
  rw [List.map_set]
  exact this
theorem MSt.cells (h : MSt w B g vR vC vM vB vS vW bases M) :
    (w.cell? ⟨g, 0, none⟩ = some vR ∧ w.frozen? ⟨g, 0, none⟩ = false) ∧ (w.cell? ⟨g, 1, none⟩ = some vC ∧ w.frozen? ⟨g, 1, none⟩ = false) ∧ (w.cell? ⟨g, 2, none⟩ = some (.int .i64 M.fin) ∧ w.frozen? ⟨g, 2, none⟩ = false) ∧
    (w.cell? ⟨g, 3, none⟩ = some (.int .i64 M.value) ∧ w.frozen? ⟨g, 3, none⟩ = false) ∧ (w.cell? ⟨g, 4, none⟩ = some (.int .i64 M.steps) ∧ w.frozen? ⟨g, 4, none⟩ = false) ∧ (w.cell? ⟨g, 5, none⟩ = some vS ∧ w.frozen? ⟨g, 5, none⟩ = false) ∧
    (w.cell? ⟨g, 6, none⟩ = some vM ∧ w.frozen? ⟨g, 6, none⟩ = false) ∧ (w.cell? ⟨g, 17, none⟩ = some vW ∧ w.frozen? ⟨g, 17, none⟩ = false) ∧ (w.cell? ⟨g, 18, none⟩ = some (.int .i64 M.at_) ∧ w.frozen? ⟨g, 18, none⟩ = false) ∧
    (w.cell? ⟨g, 19, none⟩ = some vB ∧ w.frozen? ⟨g, 19, none⟩ = false) := by
  have hl := h.len
  refine ⟨⟨?_, h.box.frozen _⟩, ⟨?_, h.box.frozen _⟩, ⟨?_, h.box.frozen _⟩, ⟨?_, h.box.frozen _⟩, ⟨?_, h.box.frozen _⟩, ⟨?_, h.box.frozen _⟩, ⟨?_, h.box.frozen _⟩, ⟨?_, h.box.frozen _⟩, ⟨?_, h.box.frozen _⟩, ⟨?_, h.box.frozen _⟩⟩ <;>
    (rw [h.box.cell]; simp [machL, List.getElem?_append, hl])
theorem MSt.reg (h : MSt w B g vR vC vM vB vS vW bases M) {a : Int} (ha : okIn 10 a = true) : w.cell? ⟨g, 7 + a.toNat, none⟩ = some (.int .i64 (rg M.regs a)) ∧ w.frozen? ⟨g, 7 + a.toNat, none⟩ = false := by
  obtain ⟨h0, h1⟩ := okIn_iff.1 ha
  exact ⟨by rw [h.box.cell]; exact mach_reg h.len (by omega), h.box.frozen _⟩
/-- behind a call that may show something -/
def SPost (w w' : World) (B g : Nat) (vR vC vM vB vS vW : Value) (bases : List Int) (M' : Mach) : Prop :=
  ∃ vS', MSt w' B g vR vC vM vB vS' vW bases M' ∧ Turn (fun j => j = g ∨ vS.ownBlock = some j) w w' ∧ (∀ j, vS'.ownBlock = some j → vS.ownBlock = some j ∨ w.heap.size ≤ j)
theorem SPost.keep {w1 : World} {M' : Mach} (h : MSt w' B g vR vC vM vB vS vW bases M') (ht : Turn (fun j => j = g ∨ vS.ownBlock = some j) w w') : SPost w w' B g vR vC vM vB vS vW bases M' := ⟨vS, h, ht, fun _ e => .inl e⟩
end
end Go.Proofs.Yteiknefajlocoaa
/- Walks of the program's runs: See, Index, Puts, Takes, Inside, Plain. -/
namespace Go.Proofs.Yteiknefajlocoaa
open Go.ChangeShapes Go.WideShapes Go.ChangeAt Go.RowKit
set_option linter.unusedVariables false
set_option linter.unusedSimpArgs false

theorem index_arr (g : Nat) (W : World) (i : Int) (h0 : 0 ≤ i) (h1 : i < 10) :
    (Instr.indexAt 106 (.pointer (some ⟨g, 7, none⟩)) (.int .i64 i)).run Try.prog W = .ok (.pointer (some ⟨g, 7 + i.toNat, none⟩)) W := by
  have hs : (Try.prog.info? 2).map (·.size) = some 1 := by kernel_rfl
  simp [Instr.indexAt, run_underlying Try.underlying106, asIntOf, Instr.sureAddr, h0, h1]
  exact addr_add g 7 _
set_option maxHeartbeats 2000000 in
theorem see_c {B g : Nat} {vR vC vM vB vS vW : Value} {bases : List Int} {M : Mach} (w : World) (h : MSt w B g vR vC vM vB vS vW bases M) (kind a b : Int) (hl : M.seen.length ≤ 1000000) :
    Calls Try.prog 105 #[.pointer (some ⟨g, 0, none⟩), .int .i64 kind, .int .i64 a, .int .i64 b] w fun e w' => e = .returned (.tuple #[]) ∧ SPost w w' B g vR vC vM vB vS vW bases { M with seen := M.seen ++ [⟨kind, a, b⟩] } := by
  obtain ⟨-, -, -, -, -, g5, -⟩ := h.cells
  obtain ⟨i0', hi0', hz0', hz1', hz2'⟩ := info_parts infoSee
  have hgl := h.box.lt
  have P := Lib.hid h
  obtain ⟨ov, ovc, rfl⟩ := own_slice h.sn
  clear h
  go_enter Try.func105, Try.ntmps105
  go_wp2_with (at_builtin; refine wpList_append_src _ rfl _ _ 34 rfl B 98 i0' _ 3 24 Try.underlying34 hi0' hz0' hz1' hz2' rfl (by decide) _ _ _ rfl (own_alloc P.out.sn) (some ⟨w.heap.size, 0, none⟩) 1 1 (seeCells ⟨kind, a, b⟩) rfl ?c1 ?c3 ?c4 ?c5 ?_)
  case c1 => exact src_new (size := 3) (Blk.new w 98 #[.int .i64 kind, .int .i64 a, .int .i64 b]) rfl (by simp [Value.oneCell'])
  case c3 => unfold maxLen; omega
  case c4 => omega
  case c5 => have := P.out.size; simp; omega
  intro vS' w3 hown hgrow hat
  obtain ⟨ow, owc, rfl⟩ := own_slice hown
  have hx := (Ext.refl w).alloc (.cells #[.int .i64 kind, .int .i64 a, .int .i64 b] 98)
  have P1 := P.out.ext hx
  have p5 : w3.cell? ⟨g, 5, none⟩ = some (.slice ov M.seen.length ovc) ∧ w3.frozen? ⟨g, 5, none⟩ = false := by
    have hb := P1.box.grown hgrow P1.gs
    exact ⟨by rw [hb.cell]; simp [machL], hb.frozen 5⟩
  have P2 := Lib.hid (P1.show_ (s := M.seen ++ [⟨kind, a, b⟩]) (vS' := .slice ow (M.seen.length + 1) owc) hgrow (by simpa using hown))
  have HT : Hid (Turn (fun j => j = g ∨ (Value.slice ov M.seen.length ovc).ownBlock = some j) w (w3.setCell ⟨g, 5, none⟩ (.slice ow (M.seen.length + 1) owc))) := Lib.hid
    (((Turn.ofExt hx).trans (Turn.grown hgrow) (fun j _ e => .inr e)).trans (Turn.set _ _ _) (fun j _ e => .inl e))
  have Hat : Hid (∀ j, (Value.slice ow (M.seen.length + 1) owc).ownBlock = some j → (Value.slice ov M.seen.length ovc).ownBlock = some j ∨ w.heap.size ≤ j) := Lib.hid (by
    intro j hj
    rcases hat with hat | hat
    · rw [hat] at hj; exact .inl hj
    · rw [hat] at hj
      simp only [Option.some.injEq] at hj
      have := hx.size
      exact .inr (by omega))
  clear hown hgrow hat hx P1 g5
  go_wp2
  refine bodyPost_end (results_none rfl _ _ _) rfl ?_
  exact ⟨rfl, _, P2.out, HT.out, Hat.out⟩

theorem index_c {B g : Nat} {vR vC vM vB vS vW : Value} {bases : List Int} {M : Mach} (w : World) (h : MSt w B g vR vC vM vB vS vW bases M) (i : LIns) (hb : okIn 10 i.b = true) :
    Calls Try.prog 135 #[.pointer (some ⟨g, 0, none⟩), insV i] w fun e w' => e = .returned (.int .i64 (idxOf M.regs i)) ∧ Ext w w' := by
  obtain ⟨rb, -⟩ := h.reg hb
  obtain ⟨op, a, b, c, n⟩ := i
  simp only at hb rb
  obtain ⟨b0, b1⟩ := okIn_iff.1 hb
  have hgl := h.box.lt
  unfold insV
  simp only
  clear h
  by_cases h5 : op = 5
  · subst h5
    go_enter Try.func135, Try.ntmps135
    go_wp2
    go_ret
    exact ⟨ret_i (by simp [idxOf]), (Ext.refl _).alloc _⟩
  by_cases h6 : op = 6
  · subst h6
    go_enter Try.func135, Try.ntmps135
    go_wp2
    go_ret
    exact ⟨ret_i (by simp [idxOf]), (Ext.refl _).alloc _⟩
  have Hv : Hid (idxOf M.regs ⟨op, a, b, c, n⟩ = wrap64 (rg M.regs b + n)) := Lib.hid (by unfold idxOf; rw [if_neg (by simp only; omega)])
  have e5 : (op == 5) = false := by simpa using h5
  have e6 : (op == 6) = false := by simpa using h6
  have hix := index_arr
  clear h5 h6
  go_enter Try.func135, Try.ntmps135
  go_upto_region 3 with fail
  obtain ⟨w0, e, he, hW, hs0, hx0, c0, c1, c2, c3, c4⟩ := new5 w 70 (.int .i64 op) (.int .i64 a) (.int .i64 b) (.int .i64 c) (.int .i64 n)
  rw [hW, he]
  have k0 : ∀ W, Ext w0 W → W.cell? ⟨e, 2, none⟩ = some (.int .i64 b) := fun _ h => h.kept c2
  have k1 : ∀ W, Ext w0 W → W.cell? ⟨e, 4, none⟩ = some (.int .i64 n) := fun _ h => h.kept c4
  have k2 : ∀ W, Ext w0 W → W.cell? ⟨g, 7 + b.toNat, none⟩ = some (.int .i64 (rg M.regs b)) := fun _ h => h.kept (hx0.kept rb)
  have X := Lib.hid hx0
  clear hW he hs0 hx0 c0 c1 c2 c3 c4 rb
  refine region_calm 12 (by kernel_rfl) (by kernel_rfl) ?_
  simp only [List.take_succ_cons, List.take_zero, List.drop_succ_cons, List.drop_zero]
  repeat (first | (refine calm_fresh ?_ ?_ (fun wc hE => ?_) ?_; (decide); rfl; (focus (go_simp; done)); go_simp) | (refine calm_value ?_ ?_ ?_; (decide); (first | rfl | (focus (go_simp; done))); apply Exists.intro; refine ⟨fun wc hE => ?_, ?_⟩; (go_simp; exact rfl); go_simp) | (refine calm_call ?_ ?_ ?_; (decide); (first | rfl | (focus (go_simp; done))); apply Exists.intro; refine ⟨fun wc hE => ?_, ?_⟩; (go_simp; (first | fail)); go_simp) | (refine calm_skip ?_ ?_ ?_; (decide); (focus (go_simp; done)); go_simp))
  refine calm_nil ?_
  intro wx hx
  have X := Lib.hid (X.out.trans hx)
  clear hx k0 k1 k2
  go_wp2
  go_ret
  exact ⟨ret_i (by rw [Hv.out, IntKind.wrap_i64]; unfold wrap64; rfl), X.out⟩

theorem puts_c (i : LIns) (w : World) :
    Calls Try.prog 107 #[insV i] w fun e w' => e = .returned (.bool (isPut i)) ∧ Ext w w' := by
  obtain ⟨op, a, b, c, n⟩ := i
  unfold insV
  simp only
  by_cases h1 : op = 4
  · subst h1
    go_enter Try.func107, Try.ntmps107
    go_wp2
    go_ret
    exact ⟨ret_b (by simp [isPut]), (Ext.refl _).alloc _⟩
  by_cases h2 : op = 6
  · subst h2
    go_enter Try.func107, Try.ntmps107
    go_wp2
    go_ret
    exact ⟨ret_b (by simp [isPut]), (Ext.refl _).alloc _⟩
  have e1 : (op == 4) = false := by simpa using h1
  have e2 : (op == 6) = false := by simpa using h2
  have Hv : Hid (isPut ⟨op, a, b, c, n⟩ = false) := Lib.hid (by simp [isPut, h1, h2])
  clear h1 h2
  go_enter Try.func107, Try.ntmps107
  go_wp2
  go_ret
  exact ⟨ret_b Hv.out.symm, (Ext.refl _).alloc _⟩

theorem takes_c (i : LIns) (w : World) :
    Calls Try.prog 108 #[insV i] w fun e w' => e = .returned (.bool (isTake i)) ∧ Ext w w' := by
  obtain ⟨op, a, b, c, n⟩ := i
  unfold insV
  simp only
  by_cases h1 : op = 3
  · subst h1
    go_enter Try.func108, Try.ntmps108
    go_wp2
    go_ret
    exact ⟨ret_b (by simp [isTake]), (Ext.refl _).alloc _⟩
  by_cases h2 : op = 5
  · subst h2
    go_enter Try.func108, Try.ntmps108
    go_wp2
    go_ret
    exact ⟨ret_b (by simp [isTake]), (Ext.refl _).alloc _⟩
  have e1 : (op == 3) = false := by simpa using h1
  have e2 : (op == 5) = false := by simpa using h2
  have Hv : Hid (isTake ⟨op, a, b, c, n⟩ = false) := Lib.hid (by simp [isTake, h1, h2])
  clear h1 h2
  go_enter Try.func108, Try.ntmps108
  go_wp2
  go_ret
  exact ⟨ret_b Hv.out.symm, (Ext.refl _).alloc _⟩

theorem inside_c {B g : Nat} {vR vC vM vB vS vW : Value} {bases : List Int} {M : Mach} (w : World) (h : MSt w B g vR vC vM vB vS vW bases M) (p : LProg) (hR : RegsAt w vR p.regs) (hr : regsOk p.regs = true) (c x : Int) (h0 : 0 ≤ c) (h1 : c.toNat < p.regs.length) :
    Calls Try.prog 136 #[.pointer (some ⟨g, 0, none⟩), .int .i64 c, .int .i64 x] w fun e w' => e = .returned (.bool (decide (0 ≤ x) && decide (x < (wordsOf (p.regs.getD c.toNat default) : Nat)))) ∧ Ext w w' := by
  obtain ⟨g0, -⟩ := h.cells
  obtain ⟨-, oa, cap, b, o, rfl, hc1, hc2, hrow⟩ := hR
  have hix := index_regs (cap := cap) hrow.at_
  obtain ⟨e0, e1⟩ := hrow.reg c.toNat h1
  have hlog := regsOk_log hr _ (getD_mem h1)
  have hlen := regsOk_len hr
  have hw6 : wordsOf (p.regs.getD c.toNat default) ≤ 64 := words_le _ hlog.2
  clear hrow h
  have h1' : c < (p.regs.length : Int) := by omega
  generalize p.regs.getD c.toNat default = r at *
  by_cases hx0 : 0 ≤ x
  · go_enter Try.func136, Try.ntmps136
    go_wp2_with fail
    (with_reducible refine (words_c r hlog.1 hlog.2 w).mono ?_)
    rintro e w1 ⟨rfl, hx⟩
    go_wp2
    go_ret
    exact ⟨ret_b (by simp [hx0]), hx⟩
  · have hd : decide (0 ≤ x) = false := by simpa using hx0
    go_enter Try.func136, Try.ntmps136
    go_wp2
    go_ret
    exact ⟨ret_b (by simp [hx0]), Ext.refl _⟩

def PlainPost (w : World) (B g : Nat) (vR vC vM vB vS vW : Value) (bases : List Int) (M : Mach) (i : LIns) (e : Ending) (w' : World) : Prop :=
  e = .returned (.tuple #[]) ∧ SPost w w' B g vR vC vM vB vS vW bases { M with regs := plainR M.regs i, seen := M.seen ++ plainS M.regs i }
section
variable {B g : Nat} {vR vC vM vB vS vW : Value} {bases : List Int} {M : Mach} {w w1 : World} {i : LIns}
theorem plain_put {a x : Int} (ha : okIn 10 a = true) (h : MSt w B g vR vC vM vB vS vW bases M) (hs : plainS M.regs i = []) (hr : plainR M.regs i = rset M.regs a x) (hx : Ext w w1) :
    PlainPost w B g vR vC vM vB vS vW bases M i (.returned (.tuple #[])) (w1.setCell ⟨g, 7 + a.toNat, none⟩ (.int .i64 x)) := by
  refine ⟨rfl, vS, ?_, (Turn.ofExt hx).trans (Turn.set _ _ _) (fun j _ e => .inl e), fun _ e => .inl e⟩
  rw [hs, hr, List.append_nil]
  exact (h.ext hx).reg_ ha x
theorem plain_same (h : MSt w B g vR vC vM vB vS vW bases M) (hs : plainS M.regs i = []) (hr : plainR M.regs i = M.regs) (hx : Ext w w1) :
    PlainPost w B g vR vC vM vB vS vW bases M i (.returned (.tuple #[])) w1 := by
  refine ⟨rfl, vS, ?_, Turn.ofExt hx, fun _ e => .inl e⟩
  rw [hs, hr, List.append_nil]
  exact h.ext hx
end

set_option maxRecDepth 100000 in
set_option maxHeartbeats 2000000 in
theorem plain_set {B g : Nat} {vR vC vM vB vS vW : Value} {bases : List Int} {M : Mach} (a b c n : Int) (h64 : All64 M.regs) (ha : okIn 10 a = true) (hsn : M.seen.length ≤ 1000000) (w : World) (h : MSt w B g vR vC vM vB vS vW bases M) :
    Calls Try.prog 110 #[.pointer (some ⟨g, 0, none⟩), insV ⟨1, a, b, c, n⟩] w (PlainPost w B g vR vC vM vB vS vW bases M ⟨1, a, b, c, n⟩) := by
  unfold insV
  simp only
  have hgl := h.box.lt
  have H := Lib.hid h
  obtain ⟨ra, fa⟩ := h.reg ha
  obtain ⟨a0, a1⟩ := okIn_iff.1 ha
  have hix := index_arr
  clear h
  go_enter Try.func110, Try.ntmps110
  go_upto_region 8 with fail
  obtain ⟨w0, e, he, hW, hs0, hx0, c0, c1, c2, c3, c4⟩ := new5 w 70 (.int .i64 1) (.int .i64 a) (.int .i64 b) (.int .i64 c) (.int .i64 n)
  rw [hW, he]
  have k1 : ∀ W, Ext w0 W → W.cell? ⟨e, 1, none⟩ = some (.int .i64 a) := fun _ h => h.kept c1
  have k4 : ∀ W, Ext w0 W → W.cell? ⟨e, 4, none⟩ = some (.int .i64 n) := fun _ h => h.kept c4
  have rr := kept2 hx0 ⟨ra, fa⟩
  have X := Lib.hid hx0
  clear hW he hs0 hx0 c0 c1 c2 c3 c4 ra fa
  refine region_calm 6 (by kernel_rfl) (by kernel_rfl) ?_
  simp only [List.take_succ_cons, List.take_zero, List.drop_succ_cons, List.drop_zero]
  repeat (first | (refine calm_fresh ?_ ?_ (fun wc hE => ?_) ?_; (decide); rfl; (focus (go_simp; done)); go_simp) | (refine calm_value ?_ ?_ ?_; (decide); (first | rfl | (focus (go_simp; done))); apply Exists.intro; refine ⟨fun wc hE => ?_, ?_⟩; (go_simp; exact rfl); go_simp) | (refine calm_call ?_ ?_ ?_; (decide); (first | rfl | (focus (go_simp; done))); apply Exists.intro; refine ⟨fun wc hE => ?_, ?_⟩; (go_simp; (first | fail)); go_simp) | (refine calm_skip ?_ ?_ ?_; (decide); (focus (go_simp; done)); go_simp))
  refine calm_nil ?_
  intro wx hx
  have X := Lib.hid (X.out.trans hx)
  have rr := kept2 hx rr
  clear hx k1 k4
  go_wp2
  refine bodyPost_end (results_none rfl _ _ _) rfl ?_
  exact plain_put (x := n) ha H.out (plainS_nil (by simp)) rfl X.out

set_option maxRecDepth 100000 in
set_option maxHeartbeats 2000000 in
theorem plain_move {B g : Nat} {vR vC vM vB vS vW : Value} {bases : List Int} {M : Mach} (a b c n : Int) (h64 : All64 M.regs) (ha : okIn 10 a = true) (hb : okIn 10 b = true) (hsn : M.seen.length ≤ 1000000) (w : World) (h : MSt w B g vR vC vM vB vS vW bases M) :
    Calls Try.prog 110 #[.pointer (some ⟨g, 0, none⟩), insV ⟨2, a, b, c, n⟩] w (PlainPost w B g vR vC vM vB vS vW bases M ⟨2, a, b, c, n⟩) := by
  unfold insV
  simp only
  have hgl := h.box.lt
  have H := Lib.hid h
  obtain ⟨ra, fa⟩ := h.reg ha
  obtain ⟨a0, a1⟩ := okIn_iff.1 ha
  obtain ⟨rb, fb⟩ := h.reg hb
  obtain ⟨b0, b1⟩ := okIn_iff.1 hb
  have hix := index_arr
  clear h
  go_enter Try.func110, Try.ntmps110
  go_upto_region 10 with fail
  obtain ⟨w0, e, he, hW, hs0, hx0, c0, c1, c2, c3, c4⟩ := new5 w 70 (.int .i64 2) (.int .i64 a) (.int .i64 b) (.int .i64 c) (.int .i64 n)
  rw [hW, he]
  have k1 : ∀ W, Ext w0 W → W.cell? ⟨e, 1, none⟩ = some (.int .i64 a) := fun _ h => h.kept c1
  have k2 : ∀ W, Ext w0 W → W.cell? ⟨e, 2, none⟩ = some (.int .i64 b) := fun _ h => h.kept c2
  have mb : ∀ W, Ext w0 W → W.cell? ⟨g, 7 + b.toNat, none⟩ = some (.int .i64 (rg M.regs b)) := fun _ h => h.kept (hx0.kept rb)
  have rr := kept2 hx0 ⟨ra, fa⟩
  have X := Lib.hid hx0
  clear hW he hs0 hx0 c0 c1 c2 c3 c4 ra fa rb fb
  refine region_calm 11 (by kernel_rfl) (by kernel_rfl) ?_
  simp only [List.take_succ_cons, List.take_zero, List.drop_succ_cons, List.drop_zero]
  repeat (first | (refine calm_fresh ?_ ?_ (fun wc hE => ?_) ?_; (decide); rfl; (focus (go_simp; done)); go_simp) | (refine calm_value ?_ ?_ ?_; (decide); (first | rfl | (focus (go_simp; done))); apply Exists.intro; refine ⟨fun wc hE => ?_, ?_⟩; (go_simp; exact rfl); go_simp) | (refine calm_call ?_ ?_ ?_; (decide); (first | rfl | (focus (go_simp; done))); apply Exists.intro; refine ⟨fun wc hE => ?_, ?_⟩; (go_simp; (first | fail)); go_simp) | (refine calm_skip ?_ ?_ ?_; (decide); (focus (go_simp; done)); go_simp))
  refine calm_nil ?_
  intro wx hx
  have X := Lib.hid (X.out.trans hx)
  have rr := kept2 hx rr
  clear hx k1 k2 mb
  go_wp2
  refine bodyPost_end (results_none rfl _ _ _) rfl ?_
  exact plain_put (x := rg M.regs b) ha H.out (plainS_nil (by simp)) rfl X.out

set_option maxRecDepth 100000 in
set_option maxHeartbeats 2000000 in
theorem plain_add {B g : Nat} {vR vC vM vB vS vW : Value} {bases : List Int} {M : Mach} (a b c n : Int) (h64 : All64 M.regs) (ha : okIn 10 a = true) (hb : okIn 10 b = true) (hsn : M.seen.length ≤ 1000000) (w : World) (h : MSt w B g vR vC vM vB vS vW bases M) :
    Calls Try.prog 110 #[.pointer (some ⟨g, 0, none⟩), insV ⟨10, a, b, c, n⟩] w (PlainPost w B g vR vC vM vB vS vW bases M ⟨10, a, b, c, n⟩) := by
  unfold insV
  simp only
  have hgl := h.box.lt
  have H := Lib.hid h
  obtain ⟨ra, fa⟩ := h.reg ha
  obtain ⟨a0, a1⟩ := okIn_iff.1 ha
  obtain ⟨rb, fb⟩ := h.reg hb
  obtain ⟨b0, b1⟩ := okIn_iff.1 hb
  have hix := index_arr
  clear h
  go_enter Try.func110, Try.ntmps110
  go_upto_region 12 with fail
  obtain ⟨w0, e, he, hW, hs0, hx0, c0, c1, c2, c3, c4⟩ := new5 w 70 (.int .i64 10) (.int .i64 a) (.int .i64 b) (.int .i64 c) (.int .i64 n)
  rw [hW, he]
  have k1 : ∀ W, Ext w0 W → W.cell? ⟨e, 1, none⟩ = some (.int .i64 a) := fun _ h => h.kept c1
  have k2 : ∀ W, Ext w0 W → W.cell? ⟨e, 2, none⟩ = some (.int .i64 b) := fun _ h => h.kept c2
  have k4 : ∀ W, Ext w0 W → W.cell? ⟨e, 4, none⟩ = some (.int .i64 n) := fun _ h => h.kept c4
  have mb : ∀ W, Ext w0 W → W.cell? ⟨g, 7 + b.toNat, none⟩ = some (.int .i64 (rg M.regs b)) := fun _ h => h.kept (hx0.kept rb)
  have rr := kept2 hx0 ⟨ra, fa⟩
  have X := Lib.hid hx0
  clear hW he hs0 hx0 c0 c1 c2 c3 c4 ra fa rb fb
  refine region_calm 14 (by kernel_rfl) (by kernel_rfl) ?_
  simp only [List.take_succ_cons, List.take_zero, List.drop_succ_cons, List.drop_zero]
  repeat (first | (refine calm_fresh ?_ ?_ (fun wc hE => ?_) ?_; (decide); rfl; (focus (go_simp; done)); go_simp) | (refine calm_value ?_ ?_ ?_; (decide); (first | rfl | (focus (go_simp; done))); apply Exists.intro; refine ⟨fun wc hE => ?_, ?_⟩; (go_simp; exact rfl); go_simp) | (refine calm_call ?_ ?_ ?_; (decide); (first | rfl | (focus (go_simp; done))); apply Exists.intro; refine ⟨fun wc hE => ?_, ?_⟩; (go_simp; (first | fail)); go_simp) | (refine calm_skip ?_ ?_ ?_; (decide); (focus (go_simp; done)); go_simp))
  refine calm_nil ?_
  intro wx hx
  have X := Lib.hid (X.out.trans hx)
  have rr := kept2 hx rr
  clear hx k1 k2 k4 mb
  go_wp2
  refine bodyPost_end (results_none rfl _ _ _) rfl ?_
  try rw [show IntKind.i64.wrap (rg M.regs b + n) = wrap64 (rg M.regs b + n) by rw [IntKind.wrap_i64]; unfold wrap64; rfl]
  exact plain_put (x := wrap64 (rg M.regs b + n)) ha H.out (plainS_nil (by simp)) rfl X.out

set_option maxRecDepth 100000 in
set_option maxHeartbeats 2000000 in
theorem plain_mask {B g : Nat} {vR vC vM vB vS vW : Value} {bases : List Int} {M : Mach} (a b c n : Int) (h64 : All64 M.regs) (ha : okIn 10 a = true) (hsn : M.seen.length ≤ 1000000) (w : World) (h : MSt w B g vR vC vM vB vS vW bases M) :
    Calls Try.prog 110 #[.pointer (some ⟨g, 0, none⟩), insV ⟨11, a, b, c, n⟩] w (PlainPost w B g vR vC vM vB vS vW bases M ⟨11, a, b, c, n⟩) := by
  unfold insV
  simp only
  have hgl := h.box.lt
  have H := Lib.hid h
  obtain ⟨ra, fa⟩ := h.reg ha
  obtain ⟨a0, a1⟩ := okIn_iff.1 ha
  have hix := index_arr
  clear h
  by_cases hneg : rg M.regs a < 0
  · have Hr : Hid (plainR M.regs ⟨11, a, b, c, n⟩ = rset M.regs a 0) := Lib.hid (by simp [plainR, hneg])
    go_enter Try.func110, Try.ntmps110
    go_upto_region 14 with fail
    obtain ⟨w0, e, he, hW, hs0, hx0, c0, c1, c2, c3, c4⟩ := new5 w 70 (.int .i64 11) (.int .i64 a) (.int .i64 b) (.int .i64 c) (.int .i64 n)
    rw [hW, he]
    have k1 : ∀ W, Ext w0 W → W.cell? ⟨e, 1, none⟩ = some (.int .i64 a) := fun _ h => h.kept c1
    have k4 : ∀ W, Ext w0 W → W.cell? ⟨e, 4, none⟩ = some (.int .i64 n) := fun _ h => h.kept c4
    have ma : ∀ W, Ext w0 W → W.cell? ⟨g, 7 + a.toNat, none⟩ = some (.int .i64 (rg M.regs a)) := fun _ h => h.kept (hx0.kept ra)
    have rr := kept2 hx0 ⟨ra, fa⟩
    have X := Lib.hid hx0
    clear hW he hs0 hx0 c0 c2 c3 ra fa
    refine region_calm 18 (by kernel_rfl) (by kernel_rfl) ?_
    simp only [List.take_succ_cons, List.take_zero, List.drop_succ_cons, List.drop_zero]
    repeat (first | (refine calm_fresh ?_ ?_ (fun wc hE => ?_) ?_; (decide); rfl; (focus (go_simp; done)); go_simp) | (refine calm_value ?_ ?_ ?_; (decide); (first | rfl | (focus (go_simp; done))); apply Exists.intro; refine ⟨fun wc hE => ?_, ?_⟩; (go_simp; exact rfl); go_simp) | (refine calm_call ?_ ?_ ?_; (decide); (first | rfl | (focus (go_simp; done))); apply Exists.intro; refine ⟨fun wc hE => ?_, ?_⟩; (go_simp; (first | fail)); go_simp) | (refine calm_skip ?_ ?_ ?_; (decide); (focus (go_simp; done)); go_simp))
    refine calm_nil ?_
    intro wx hx
    have X := Lib.hid (X.out.trans hx)
    have rr := kept2 hx rr
    have c1 := hx.kept c1
    clear hx c4 k1 k4 ma
    go_upto_region 15 with fail
    have k1 : ∀ W, Ext wx W → W.cell? ⟨e, 1, none⟩ = some (.int .i64 a) := fun _ h => h.kept c1
    refine region_calm 5 (by kernel_rfl) (by kernel_rfl) ?_
    simp only [List.take_succ_cons, List.take_zero, List.drop_succ_cons, List.drop_zero]
    repeat (first | (refine calm_fresh ?_ ?_ (fun wc hE => ?_) ?_; (decide); rfl; (focus (go_simp; done)); go_simp) | (refine calm_value ?_ ?_ ?_; (decide); (first | rfl | (focus (go_simp; done))); apply Exists.intro; refine ⟨fun wc hE => ?_, ?_⟩; (go_simp; exact rfl); go_simp) | (refine calm_call ?_ ?_ ?_; (decide); (first | rfl | (focus (go_simp; done))); apply Exists.intro; refine ⟨fun wc hE => ?_, ?_⟩; (go_simp; (first | fail)); go_simp) | (refine calm_skip ?_ ?_ ?_; (decide); (focus (go_simp; done)); go_simp))
    refine calm_nil ?_
    intro wy hy
    have X := Lib.hid (X.out.trans hy)
    have rr := kept2 hy rr
    clear hy c1 k1
    go_wp2
    refine bodyPost_end (results_none rfl _ _ _) rfl ?_
    exact plain_put (x := 0) ha H.out (plainS_nil (by simp)) Hr.out X.out
  by_cases hge : n ≤ rg M.regs a
  · have Hr : Hid (plainR M.regs ⟨11, a, b, c, n⟩ = rset M.regs a 0) := Lib.hid (by simp [plainR, hge])
    have hn0 : decide (rg M.regs a < 0) = false := by simpa using hneg
    clear hneg
    go_enter Try.func110, Try.ntmps110
    go_upto_region 14 with fail
    obtain ⟨w0, e, he, hW, hs0, hx0, c0, c1, c2, c3, c4⟩ := new5 w 70 (.int .i64 11) (.int .i64 a) (.int .i64 b) (.int .i64 c) (.int .i64 n)
    rw [hW, he]
    have k1 : ∀ W, Ext w0 W → W.cell? ⟨e, 1, none⟩ = some (.int .i64 a) := fun _ h => h.kept c1
    have k4 : ∀ W, Ext w0 W → W.cell? ⟨e, 4, none⟩ = some (.int .i64 n) := fun _ h => h.kept c4
    have ma : ∀ W, Ext w0 W → W.cell? ⟨g, 7 + a.toNat, none⟩ = some (.int .i64 (rg M.regs a)) := fun _ h => h.kept (hx0.kept ra)
    have rr := kept2 hx0 ⟨ra, fa⟩
    have X := Lib.hid hx0
    clear hW he hs0 hx0 c0 c2 c3 ra fa
    refine region_calm 18 (by kernel_rfl) (by kernel_rfl) ?_
    simp only [List.take_succ_cons, List.take_zero, List.drop_succ_cons, List.drop_zero]
    repeat (first | (refine calm_fresh ?_ ?_ (fun wc hE => ?_) ?_; (decide); rfl; (focus (go_simp; done)); go_simp) | (refine calm_value ?_ ?_ ?_; (decide); (first | rfl | (focus (go_simp; done))); apply Exists.intro; refine ⟨fun wc hE => ?_, ?_⟩; (go_simp; exact rfl); go_simp) | (refine calm_call ?_ ?_ ?_; (decide); (first | rfl | (focus (go_simp; done))); apply Exists.intro; refine ⟨fun wc hE => ?_, ?_⟩; (go_simp; (first | fail)); go_simp) | (refine calm_skip ?_ ?_ ?_; (decide); (focus (go_simp; done)); go_simp))
    refine calm_nil ?_
    intro wx hx
    have X := Lib.hid (X.out.trans hx)
    have rr := kept2 hx rr
    have c1 := hx.kept c1
    clear hx c4 k1 k4 ma
    go_upto_region 15 with fail
    have k1 : ∀ W, Ext wx W → W.cell? ⟨e, 1, none⟩ = some (.int .i64 a) := fun _ h => h.kept c1
    refine region_calm 5 (by kernel_rfl) (by kernel_rfl) ?_
    simp only [List.take_succ_cons, List.take_zero, List.drop_succ_cons, List.drop_zero]
    repeat (first | (refine calm_fresh ?_ ?_ (fun wc hE => ?_) ?_; (decide); rfl; (focus (go_simp; done)); go_simp) | (refine calm_value ?_ ?_ ?_; (decide); (first | rfl | (focus (go_simp; done))); apply Exists.intro; refine ⟨fun wc hE => ?_, ?_⟩; (go_simp; exact rfl); go_simp) | (refine calm_call ?_ ?_ ?_; (decide); (first | rfl | (focus (go_simp; done))); apply Exists.intro; refine ⟨fun wc hE => ?_, ?_⟩; (go_simp; (first | fail)); go_simp) | (refine calm_skip ?_ ?_ ?_; (decide); (focus (go_simp; done)); go_simp))
    refine calm_nil ?_
    intro wy hy
    have X := Lib.hid (X.out.trans hy)
    have rr := kept2 hy rr
    clear hy c1 k1
    go_wp2
    refine bodyPost_end (results_none rfl _ _ _) rfl ?_
    exact plain_put (x := 0) ha H.out (plainS_nil (by simp)) Hr.out X.out
  · have Hr : Hid (plainR M.regs ⟨11, a, b, c, n⟩ = M.regs) := Lib.hid (by simp [plainR, hge, hneg])
    have hn0 : decide (rg M.regs a < 0) = false := by simpa using hneg
    have hn1 : decide (n ≤ rg M.regs a) = false := by simpa using hge
    clear hneg hge
    go_enter Try.func110, Try.ntmps110
    go_upto_region 14 with fail
    obtain ⟨w0, e, he, hW, hs0, hx0, c0, c1, c2, c3, c4⟩ := new5 w 70 (.int .i64 11) (.int .i64 a) (.int .i64 b) (.int .i64 c) (.int .i64 n)
    rw [hW, he]
    have k1 : ∀ W, Ext w0 W → W.cell? ⟨e, 1, none⟩ = some (.int .i64 a) := fun _ h => h.kept c1
    have k4 : ∀ W, Ext w0 W → W.cell? ⟨e, 4, none⟩ = some (.int .i64 n) := fun _ h => h.kept c4
    have ma : ∀ W, Ext w0 W → W.cell? ⟨g, 7 + a.toNat, none⟩ = some (.int .i64 (rg M.regs a)) := fun _ h => h.kept (hx0.kept ra)
    have rr := kept2 hx0 ⟨ra, fa⟩
    have X := Lib.hid hx0
    clear hW he hs0 hx0 c0 c2 c3 ra fa
    refine region_calm 18 (by kernel_rfl) (by kernel_rfl) ?_
    simp only [List.take_succ_cons, List.take_zero, List.drop_succ_cons, List.drop_zero]
    repeat (first | (refine calm_fresh ?_ ?_ (fun wc hE => ?_) ?_; (decide); rfl; (focus (go_simp; done)); go_simp) | (refine calm_value ?_ ?_ ?_; (decide); (first | rfl | (focus (go_simp; done))); apply Exists.intro; refine ⟨fun wc hE => ?_, ?_⟩; (go_simp; exact rfl); go_simp) | (refine calm_call ?_ ?_ ?_; (decide); (first | rfl | (focus (go_simp; done))); apply Exists.intro; refine ⟨fun wc hE => ?_, ?_⟩; (go_simp; (first | fail)); go_simp) | (refine calm_skip ?_ ?_ ?_; (decide); (focus (go_simp; done)); go_simp))
    refine calm_nil ?_
    intro wx hx
    have X := Lib.hid (X.out.trans hx)
    have rr := kept2 hx rr
    have c1 := hx.kept c1
    clear hx c4 k1 k4 ma
    go_wp2
    refine bodyPost_end (results_none rfl _ _ _) rfl ?_
    exact plain_same H.out (plainS_nil (by simp)) Hr.out X.out

set_option maxRecDepth 100000 in
set_option maxHeartbeats 2000000 in
theorem plain_fence {B g : Nat} {vR vC vM vB vS vW : Value} {bases : List Int} {M : Mach} (a b c n : Int) (h64 : All64 M.regs) (hop : True) (hsn : M.seen.length ≤ 1000000) (w : World) (h : MSt w B g vR vC vM vB vS vW bases M) :
    Calls Try.prog 110 #[.pointer (some ⟨g, 0, none⟩), insV ⟨12, a, b, c, n⟩] w (PlainPost w B g vR vC vM vB vS vW bases M ⟨12, a, b, c, n⟩) := by
  unfold insV
  simp only
  have hgl := h.box.lt
  have H := Lib.hid h
  have hix := index_arr
  clear h
  go_enter Try.func110, Try.ntmps110
  go_wp2
  refine bodyPost_end (results_none rfl _ _ _) rfl ?_
  exact plain_same H.out (plainS_nil (by simp)) rfl ((Ext.refl _).alloc _)

theorem cell_turn {S : Nat → Prop} {w w' : World} (h : Turn S w w') {p : Addr} (hp : p.block < w.heap.size) (hn : ¬ S p.block) : w'.cell? p = w.cell? p := by
  have := h.block p.block hp hn
  unfold World.cell?
  rw [this]

set_option maxRecDepth 100000 in
set_option maxHeartbeats 2000000 in
theorem plain_op {B g : Nat} {vR vC vM vB vS vW : Value} {bases : List Int} {M : Mach} (op a b c n : Int) (h64 : All64 M.regs) (ha : okIn 10 a = true) (hb : okIn 10 b = true) (hc : okIn 10 c = true) (o1 : 21 ≤ op) (o2 : op ≤ 28) (hsn : M.seen.length ≤ 1000000) (w : World) (h : MSt w B g vR vC vM vB vS vW bases M) :
    Calls Try.prog 110 #[.pointer (some ⟨g, 0, none⟩), insV ⟨op, a, b, c, n⟩] w (PlainPost w B g vR vC vM vB vS vW bases M ⟨op, a, b, c, n⟩) := by
  unfold insV
  simp only
  have hgl := h.box.lt
  have H := Lib.hid h
  obtain ⟨ra, fa⟩ := h.reg ha
  obtain ⟨a0, a1⟩ := okIn_iff.1 ha
  obtain ⟨rb, fb⟩ := h.reg hb
  obtain ⟨b0, b1⟩ := okIn_iff.1 hb
  obtain ⟨rc, fc⟩ := h.reg hc
  obtain ⟨c0, c1⟩ := okIn_iff.1 hc
  have hsub : IntKind.i64.wrap (op - 20) = op - 20 := Go.IntWalk.i64_in _ (by omega)
  have q1 : (op == (1 : Int)) = false := by simp; try omega
  have q2 : (op == (2 : Int)) = false := by simp; try omega
  have q3 : (op == (10 : Int)) = false := by simp; try omega
  have q4 : (op == (11 : Int)) = false := by simp; try omega
  have q5 : (op == (12 : Int)) = false := by simp; try omega
  have q6 : (op - 20 == (9 : Int)) = false := by simp; omega
  have q7 : (op - 20 == (10 : Int)) = false := by simp; omega
  have Hr : Hid (plainR M.regs ⟨op, a, b, c, n⟩ = rset M.regs a (nop (op - 20) (rg M.regs b) (rg M.regs c))) := Lib.hid (by
    unfold plainR
    rw [if_neg (by simp only; omega), if_neg (by simp only; omega), if_neg (by simp only; omega), if_neg (by simp only; omega), if_neg (by simp only; omega)]
    try rfl)
  have hix := index_arr
  clear h
  go_enter Try.func110, Try.ntmps110
  go_upto_region 6 with fail
  obtain ⟨w0, e, he, hW, hs0, hx0, c0, c1, c2, c3, c4⟩ := new5 w 70 (.int .i64 op) (.int .i64 a) (.int .i64 b) (.int .i64 c) (.int .i64 n)
  rw [hW, he]
  have k1 : ∀ W, Ext w0 W → W.cell? ⟨e, 1, none⟩ = some (.int .i64 a) := fun _ h => h.kept c1
  have k2 : ∀ W, Ext w0 W → W.cell? ⟨e, 2, none⟩ = some (.int .i64 b) := fun _ h => h.kept c2
  have k3 : ∀ W, Ext w0 W → W.cell? ⟨e, 3, none⟩ = some (.int .i64 c) := fun _ h => h.kept c3
  have mb : ∀ W, Ext w0 W → W.cell? ⟨g, 7 + b.toNat, none⟩ = some (.int .i64 (rg M.regs b)) := fun _ h => h.kept (hx0.kept rb)
  have mc : ∀ W, Ext w0 W → W.cell? ⟨g, 7 + c.toNat, none⟩ = some (.int .i64 (rg M.regs c)) := fun _ h => h.kept (hx0.kept rc)
  have rr := kept2 hx0 ⟨ra, fa⟩
  have X := Lib.hid hx0
  clear hW hs0 hx0 c0 c1 c2 c3 c4 ra fa rb fb rc fc
  refine region_calm 19 (by kernel_rfl) (by kernel_rfl) ?_
  simp only [List.take_succ_cons, List.take_zero, List.drop_succ_cons, List.drop_zero]
  repeat (first | (refine calm_fresh ?_ ?_ (fun wc hE => ?_) ?_; (decide); rfl; (focus (go_simp; done)); go_simp) | (refine calm_value ?_ ?_ ?_; (decide); (first | rfl | (focus (go_simp; done))); apply Exists.intro; refine ⟨fun wc hE => ?_, ?_⟩; (go_simp; exact rfl); go_simp) | (refine calm_call ?_ ?_ ?_; (decide); (first | rfl | (focus (go_simp; done))); apply Exists.intro; refine ⟨fun wc hE => ?_, ?_⟩; (go_simp; (first | (with_reducible exact calm_enter_same (numOp_c (op - 20) (rg M.regs b) (rg M.regs c) _)))); go_simp) | (refine calm_skip ?_ ?_ ?_; (decide); (focus (go_simp; done)); go_simp))
  refine calm_nil ?_
  intro wx hx
  have X := Lib.hid (X.out.trans hx)
  have rr := kept2 hx rr
  clear hx k1 k2 k3 mb mc hsub
  go_wp2
  refine bodyPost_end (results_none rfl _ _ _) rfl ?_
  exact plain_put (x := nop (op - 20) (rg M.regs b) (rg M.regs c)) ha H.out (plainS_nil (by simp only; omega)) Hr.out X.out

set_option maxRecDepth 100000 in
set_option maxHeartbeats 2000000 in
theorem plain_op29 {B g : Nat} {vR vC vM vB vS vW : Value} {bases : List Int} {M : Mach} (a b c n : Int) (h64 : All64 M.regs) (ha : okIn 10 a = true) (hb : okIn 10 b = true) (hc : okIn 10 c = true) (hsn : M.seen.length ≤ 1000000) (w : World) (h : MSt w B g vR vC vM vB vS vW bases M) :
    Calls Try.prog 110 #[.pointer (some ⟨g, 0, none⟩), insV ⟨29, a, b, c, n⟩] w (PlainPost w B g vR vC vM vB vS vW bases M ⟨29, a, b, c, n⟩) := by
  unfold insV
  simp only
  have hgl := h.box.lt
  have H := Lib.hid h
  obtain ⟨ra, fa⟩ := h.reg ha
  obtain ⟨a0, a1⟩ := okIn_iff.1 ha
  obtain ⟨rb, fb⟩ := h.reg hb
  obtain ⟨b0, b1⟩ := okIn_iff.1 hb
  obtain ⟨rc, fc⟩ := h.reg hc
  obtain ⟨c0, c1⟩ := okIn_iff.1 hc
  have hsub : IntKind.i64.wrap (9) = 9 := Go.IntWalk.i64_in _ (by omega)
  have q1 : (29 == (1 : Int)) = false := by simp; try omega
  have q2 : (29 == (2 : Int)) = false := by simp; try omega
  have q3 : (29 == (10 : Int)) = false := by simp; try omega
  have q4 : (29 == (11 : Int)) = false := by simp; try omega
  have q5 : (29 == (12 : Int)) = false := by simp; try omega
  have Hr : Hid (plainR M.regs ⟨29, a, b, c, n⟩ = rset M.regs a (nop (9) (rg M.regs b) (rg M.regs c))) := Lib.hid (by
    unfold plainR
    rw [if_neg (by simp only; omega), if_neg (by simp only; omega), if_neg (by simp only; omega), if_neg (by simp only; omega), if_neg (by simp only; omega)]
    try rfl)
  have hix := index_arr
  clear h
  go_enter Try.func110, Try.ntmps110
  go_upto_region 5 with fail
  obtain ⟨w0, e, he, hW, hs0, hx0, c0, c1, c2, c3, c4⟩ := new5 w 70 (.int .i64 29) (.int .i64 a) (.int .i64 b) (.int .i64 c) (.int .i64 n)
  rw [hW, he]
  have k1 : ∀ W, Ext w0 W → W.cell? ⟨e, 1, none⟩ = some (.int .i64 a) := fun _ h => h.kept c1
  have k2 : ∀ W, Ext w0 W → W.cell? ⟨e, 2, none⟩ = some (.int .i64 b) := fun _ h => h.kept c2
  have k3 : ∀ W, Ext w0 W → W.cell? ⟨e, 3, none⟩ = some (.int .i64 c) := fun _ h => h.kept c3
  have mb : ∀ W, Ext w0 W → W.cell? ⟨g, 7 + b.toNat, none⟩ = some (.int .i64 (rg M.regs b)) := fun _ h => h.kept (hx0.kept rb)
  have mc : ∀ W, Ext w0 W → W.cell? ⟨g, 7 + c.toNat, none⟩ = some (.int .i64 (rg M.regs c)) := fun _ h => h.kept (hx0.kept rc)
  have rr := kept2 hx0 ⟨ra, fa⟩
  have X := Lib.hid hx0
  have Ha := Lib.hid ha
  have Hb := Lib.hid hb
  have Hc := Lib.hid hc
  have hke : e ≠ g := by omega
  clear hW hs0 hx0 c0 c4 ra fa rb fb rc fc
  refine region_calm 13 (by kernel_rfl) (by kernel_rfl) ?_
  simp only [List.take_succ_cons, List.take_zero, List.drop_succ_cons, List.drop_zero]
  repeat (first | (refine calm_fresh ?_ ?_ (fun wc hE => ?_) ?_; (decide); rfl; (focus (go_simp; done)); go_simp) | (refine calm_value ?_ ?_ ?_; (decide); (first | rfl | (focus (go_simp; done))); apply Exists.intro; refine ⟨fun wc hE => ?_, ?_⟩; (go_simp; exact rfl); go_simp) | (refine calm_call ?_ ?_ ?_; (decide); (first | rfl | (focus (go_simp; done))); apply Exists.intro; refine ⟨fun wc hE => ?_, ?_⟩; (go_simp; (first | fail)); go_simp) | (refine calm_skip ?_ ?_ ?_; (decide); (focus (go_simp; done)); go_simp))
  refine calm_nil ?_
  intro wx hx
  have X := Lib.hid (X.out.trans hx)
  have c1 := hx.kept c1
  have c2 := hx.kept c2
  have c3 := hx.kept c3
  clear hx k1 k2 k3 mb mc rr
  go_wp2_with fail
  (with_reducible refine (see_c wx (H.out.ext X.out) 3 (rg M.regs b) (rg M.regs c) hsn).mono ?_)
  rintro e1 w2 ⟨rfl, vS2, P2, T2, N2⟩
  have hes : vS.ownBlock ≠ some e := by
    intro he2
    have := (H.out.sn.lt e he2).2
    omega
  have hne : ¬ (e = g ∨ vS.ownBlock = some e) := by
    rintro (h1 | h1)
    · exact hke h1
    · exact hes h1
  have hel := block_lt c1
  simp only at hel
  have c1 : w2.cell? ⟨e, 1, none⟩ = some (.int .i64 a) := by rw [cell_turn T2 hel hne]; exact c1
  have c2 : w2.cell? ⟨e, 2, none⟩ = some (.int .i64 b) := by rw [cell_turn T2 hel hne]; exact c2
  have c3 : w2.cell? ⟨e, 3, none⟩ = some (.int .i64 c) := by rw [cell_turn T2 hel hne]; exact c3
  obtain ⟨ra, fa⟩ := P2.reg Ha.out
  obtain ⟨rb, -⟩ := P2.reg Hb.out
  obtain ⟨rc, -⟩ := P2.reg Hc.out
  simp only at ra rb rc
  have P2 := Lib.hid P2
  have T2 := Lib.hid T2
  have N2 := Lib.hid N2
  have hgl := P2.out.box.lt
  clear hes hne
  go_upto_region 6 with fail
  have k1 : ∀ W, Ext w2 W → W.cell? ⟨e, 1, none⟩ = some (.int .i64 a) := fun _ h => h.kept c1
  have k2 : ∀ W, Ext w2 W → W.cell? ⟨e, 2, none⟩ = some (.int .i64 b) := fun _ h => h.kept c2
  have k3 : ∀ W, Ext w2 W → W.cell? ⟨e, 3, none⟩ = some (.int .i64 c) := fun _ h => h.kept c3
  have mb : ∀ W, Ext w2 W → W.cell? ⟨g, 7 + b.toNat, none⟩ = some (.int .i64 (rg M.regs b)) := fun _ h => h.kept (rb)
  have mc : ∀ W, Ext w2 W → W.cell? ⟨g, 7 + c.toNat, none⟩ = some (.int .i64 (rg M.regs c)) := fun _ h => h.kept (rc)
  have rr : w2.cell? ⟨g, 7 + a.toNat, none⟩ = some (.int .i64 (rg M.regs a)) ∧ w2.frozen? ⟨g, 7 + a.toNat, none⟩ = false := ⟨ra, fa⟩
  clear c1 c2 c3 ra fa rb rc
  refine region_calm 19 (by kernel_rfl) (by kernel_rfl) ?_
  simp only [List.take_succ_cons, List.take_zero, List.drop_succ_cons, List.drop_zero]
  repeat (first | (refine calm_fresh ?_ ?_ (fun wc hE => ?_) ?_; (decide); rfl; (focus (go_simp; done)); go_simp) | (refine calm_value ?_ ?_ ?_; (decide); (first | rfl | (focus (go_simp; done))); apply Exists.intro; refine ⟨fun wc hE => ?_, ?_⟩; (go_simp; exact rfl); go_simp) | (refine calm_call ?_ ?_ ?_; (decide); (first | rfl | (focus (go_simp; done))); apply Exists.intro; refine ⟨fun wc hE => ?_, ?_⟩; (go_simp; (first | (with_reducible exact calm_enter_same (numOp_c (9) (rg M.regs b) (rg M.regs c) _)))); go_simp) | (refine calm_skip ?_ ?_ ?_; (decide); (focus (go_simp; done)); go_simp))
  refine calm_nil ?_
  intro wy hy
  have rr := kept2 hy rr
  have Y := Lib.hid hy
  clear hy k1 k2 k3 mb mc hsub
  go_wp2
  refine bodyPost_end (results_none rfl _ _ _) rfl ?_
  refine ⟨rfl, vS2, ?_, ?_, fun j hj => ?_⟩
  · have h1 := (P2.out.ext Y.out).reg_ Ha.out (nop (9) (rg M.regs b) (rg M.regs c))
    rw [Hr.out]
    exact h1
  · exact (((Turn.ofExt X.out).trans T2.out (fun _ _ e => e)).ext Y.out).trans (Turn.set _ _ _) (fun j _ e => .inl e)
  · rcases N2.out j hj with h1 | h1
    · exact .inl h1
    · have := X.out.size
      exact .inr (by omega)

set_option maxRecDepth 100000 in
set_option maxHeartbeats 2000000 in
theorem plain_op30 {B g : Nat} {vR vC vM vB vS vW : Value} {bases : List Int} {M : Mach} (a b c n : Int) (h64 : All64 M.regs) (ha : okIn 10 a = true) (hb : okIn 10 b = true) (hc : okIn 10 c = true) (hsn : M.seen.length ≤ 1000000) (w : World) (h : MSt w B g vR vC vM vB vS vW bases M) :
    Calls Try.prog 110 #[.pointer (some ⟨g, 0, none⟩), insV ⟨30, a, b, c, n⟩] w (PlainPost w B g vR vC vM vB vS vW bases M ⟨30, a, b, c, n⟩) := by
  unfold insV
  simp only
  have hgl := h.box.lt
  have H := Lib.hid h
  obtain ⟨ra, fa⟩ := h.reg ha
  obtain ⟨a0, a1⟩ := okIn_iff.1 ha
  obtain ⟨rb, fb⟩ := h.reg hb
  obtain ⟨b0, b1⟩ := okIn_iff.1 hb
  obtain ⟨rc, fc⟩ := h.reg hc
  obtain ⟨c0, c1⟩ := okIn_iff.1 hc
  have hsub : IntKind.i64.wrap (10) = 10 := Go.IntWalk.i64_in _ (by omega)
  have q1 : (30 == (1 : Int)) = false := by simp; try omega
  have q2 : (30 == (2 : Int)) = false := by simp; try omega
  have q3 : (30 == (10 : Int)) = false := by simp; try omega
  have q4 : (30 == (11 : Int)) = false := by simp; try omega
  have q5 : (30 == (12 : Int)) = false := by simp; try omega
  have Hr : Hid (plainR M.regs ⟨30, a, b, c, n⟩ = rset M.regs a (nop (10) (rg M.regs b) (rg M.regs c))) := Lib.hid (by
    unfold plainR
    rw [if_neg (by simp only; omega), if_neg (by simp only; omega), if_neg (by simp only; omega), if_neg (by simp only; omega), if_neg (by simp only; omega)]
    try rfl)
  have hix := index_arr
  clear h
  go_enter Try.func110, Try.ntmps110
  go_upto_region 5 with fail
  obtain ⟨w0, e, he, hW, hs0, hx0, c0, c1, c2, c3, c4⟩ := new5 w 70 (.int .i64 30) (.int .i64 a) (.int .i64 b) (.int .i64 c) (.int .i64 n)
  rw [hW, he]
  have k1 : ∀ W, Ext w0 W → W.cell? ⟨e, 1, none⟩ = some (.int .i64 a) := fun _ h => h.kept c1
  have k2 : ∀ W, Ext w0 W → W.cell? ⟨e, 2, none⟩ = some (.int .i64 b) := fun _ h => h.kept c2
  have k3 : ∀ W, Ext w0 W → W.cell? ⟨e, 3, none⟩ = some (.int .i64 c) := fun _ h => h.kept c3
  have mb : ∀ W, Ext w0 W → W.cell? ⟨g, 7 + b.toNat, none⟩ = some (.int .i64 (rg M.regs b)) := fun _ h => h.kept (hx0.kept rb)
  have mc : ∀ W, Ext w0 W → W.cell? ⟨g, 7 + c.toNat, none⟩ = some (.int .i64 (rg M.regs c)) := fun _ h => h.kept (hx0.kept rc)
  have rr := kept2 hx0 ⟨ra, fa⟩
  have X := Lib.hid hx0
  have Ha := Lib.hid ha
  have Hb := Lib.hid hb
  have Hc := Lib.hid hc
  have hke : e ≠ g := by omega
  clear hW hs0 hx0 c0 c4 ra fa rb fb rc fc
  refine region_calm 13 (by kernel_rfl) (by kernel_rfl) ?_
  simp only [List.take_succ_cons, List.take_zero, List.drop_succ_cons, List.drop_zero]
  repeat (first | (refine calm_fresh ?_ ?_ (fun wc hE => ?_) ?_; (decide); rfl; (focus (go_simp; done)); go_simp) | (refine calm_value ?_ ?_ ?_; (decide); (first | rfl | (focus (go_simp; done))); apply Exists.intro; refine ⟨fun wc hE => ?_, ?_⟩; (go_simp; exact rfl); go_simp) | (refine calm_call ?_ ?_ ?_; (decide); (first | rfl | (focus (go_simp; done))); apply Exists.intro; refine ⟨fun wc hE => ?_, ?_⟩; (go_simp; (first | fail)); go_simp) | (refine calm_skip ?_ ?_ ?_; (decide); (focus (go_simp; done)); go_simp))
  refine calm_nil ?_
  intro wx hx
  have X := Lib.hid (X.out.trans hx)
  have c1 := hx.kept c1
  have c2 := hx.kept c2
  have c3 := hx.kept c3
  clear hx k1 k2 k3 mb mc rr
  go_wp2_with fail
  (with_reducible refine (see_c wx (H.out.ext X.out) 3 (rg M.regs b) (rg M.regs c) hsn).mono ?_)
  rintro e1 w2 ⟨rfl, vS2, P2, T2, N2⟩
  have hes : vS.ownBlock ≠ some e := by
    intro he2
    have := (H.out.sn.lt e he2).2
    omega
  have hne : ¬ (e = g ∨ vS.ownBlock = some e) := by
    rintro (h1 | h1)
    · exact hke h1
    · exact hes h1
  have hel := block_lt c1
  simp only at hel
  have c1 : w2.cell? ⟨e, 1, none⟩ = some (.int .i64 a) := by rw [cell_turn T2 hel hne]; exact c1
  have c2 : w2.cell? ⟨e, 2, none⟩ = some (.int .i64 b) := by rw [cell_turn T2 hel hne]; exact c2
  have c3 : w2.cell? ⟨e, 3, none⟩ = some (.int .i64 c) := by rw [cell_turn T2 hel hne]; exact c3
  obtain ⟨ra, fa⟩ := P2.reg Ha.out
  obtain ⟨rb, -⟩ := P2.reg Hb.out
  obtain ⟨rc, -⟩ := P2.reg Hc.out
  simp only at ra rb rc
  have P2 := Lib.hid P2
  have T2 := Lib.hid T2
  have N2 := Lib.hid N2
  have hgl := P2.out.box.lt
  clear hes hne
  go_upto_region 6 with fail
  have k1 : ∀ W, Ext w2 W → W.cell? ⟨e, 1, none⟩ = some (.int .i64 a) := fun _ h => h.kept c1
  have k2 : ∀ W, Ext w2 W → W.cell? ⟨e, 2, none⟩ = some (.int .i64 b) := fun _ h => h.kept c2
  have k3 : ∀ W, Ext w2 W → W.cell? ⟨e, 3, none⟩ = some (.int .i64 c) := fun _ h => h.kept c3
  have mb : ∀ W, Ext w2 W → W.cell? ⟨g, 7 + b.toNat, none⟩ = some (.int .i64 (rg M.regs b)) := fun _ h => h.kept (rb)
  have mc : ∀ W, Ext w2 W → W.cell? ⟨g, 7 + c.toNat, none⟩ = some (.int .i64 (rg M.regs c)) := fun _ h => h.kept (rc)
  have rr : w2.cell? ⟨g, 7 + a.toNat, none⟩ = some (.int .i64 (rg M.regs a)) ∧ w2.frozen? ⟨g, 7 + a.toNat, none⟩ = false := ⟨ra, fa⟩
  clear c1 c2 c3 ra fa rb rc
  refine region_calm 19 (by kernel_rfl) (by kernel_rfl) ?_
  simp only [List.take_succ_cons, List.take_zero, List.drop_succ_cons, List.drop_zero]
  repeat (first | (refine calm_fresh ?_ ?_ (fun wc hE => ?_) ?_; (decide); rfl; (focus (go_simp; done)); go_simp) | (refine calm_value ?_ ?_ ?_; (decide); (first | rfl | (focus (go_simp; done))); apply Exists.intro; refine ⟨fun wc hE => ?_, ?_⟩; (go_simp; exact rfl); go_simp) | (refine calm_call ?_ ?_ ?_; (decide); (first | rfl | (focus (go_simp; done))); apply Exists.intro; refine ⟨fun wc hE => ?_, ?_⟩; (go_simp; (first | (with_reducible exact calm_enter_same (numOp_c (10) (rg M.regs b) (rg M.regs c) _)))); go_simp) | (refine calm_skip ?_ ?_ ?_; (decide); (focus (go_simp; done)); go_simp))
  refine calm_nil ?_
  intro wy hy
  have rr := kept2 hy rr
  have Y := Lib.hid hy
  clear hy k1 k2 k3 mb mc hsub
  go_wp2
  refine bodyPost_end (results_none rfl _ _ _) rfl ?_
  refine ⟨rfl, vS2, ?_, ?_, fun j hj => ?_⟩
  · have h1 := (P2.out.ext Y.out).reg_ Ha.out (nop (10) (rg M.regs b) (rg M.regs c))
    rw [Hr.out]
    exact h1
  · exact (((Turn.ofExt X.out).trans T2.out (fun _ _ e => e)).ext Y.out).trans (Turn.set _ _ _) (fun j _ e => .inl e)
  · rcases N2.out j hj with h1 | h1
    · exact .inl h1
    · have := X.out.size
      exact .inr (by omega)

theorem plain_c {B g : Nat} {vR vC vM vB vS vW : Value} {bases : List Int} {M : Mach} (p : LProg) (i : LIns) (h64 : All64 M.regs) (hi : insOk p 10 i = true) (h3 : i.op ≠ 3 ∧ i.op ≠ 4 ∧ i.op ≠ 5 ∧ i.op ≠ 6 ∧ i.op ≠ 7 ∧ i.op ≠ 8 ∧ i.op ≠ 9) (hsn : M.seen.length ≤ 1000000) (w : World) (h : MSt w B g vR vC vM vB vS vW bases M) :
    Calls Try.prog 110 #[.pointer (some ⟨g, 0, none⟩), insV i] w (PlainPost w B g vR vC vM vB vS vW bases M i) := by
  obtain ⟨g1, g2, g10, g3, g5, g8, g9, g11, go, g7, gop⟩ := ins_regs hi
  obtain ⟨op, a, b, c, n⟩ := i
  simp only at h3
  by_cases e1 : op = 1
  · subst e1; exact plain_set a b c n h64 (g1 rfl) hsn w h
  by_cases e2 : op = 2
  · subst e2; exact plain_move a b c n h64 (g2 rfl).1 (g2 rfl).2 hsn w h
  by_cases e10 : op = 10
  · subst e10; exact plain_add a b c n h64 (g10 rfl).1 (g10 rfl).2 hsn w h
  by_cases e11 : op = 11
  · subst e11; exact plain_mask a b c n h64 (g11 rfl).1 hsn w h
  by_cases e12 : op = 12
  · subst e12; exact plain_fence a b c n h64 trivial hsn w h
  obtain ⟨p1, p2, p3, p4, p5⟩ := go e1 e2 e10 h3.1 h3.2.1 h3.2.2.1 h3.2.2.2.1 h3.2.2.2.2.1 h3.2.2.2.2.2.1 h3.2.2.2.2.2.2 e11 e12
  simp only at p4 p5
  by_cases e29 : op = 29
  · subst e29; exact plain_op29 a b c n h64 p1 p2 p3 hsn w h
  by_cases e30 : op = 30
  · subst e30; exact plain_op30 a b c n h64 p1 p2 p3 hsn w h
  exact plain_op op a b c n h64 p1 p2 p3 p4 (by omega) hsn w h

end Go.Proofs.Yteiknefajlocoaa
