/- The reference's run in memory: what each of its writes does to it. -/
import Derived.Test.YteiknefajlocoaaRef3b
namespace Go.Proofs.Yteiknefajlocoaa
open Go.ChangeShapes Go.WideShapes Go.ChangeAt Go.RowKit
set_option linter.unusedVariables false
set_option linter.unusedSimpArgs false

/-- the run at block gs, its registers at block k, what it has shown, its words: of the call's own; of all else nothing has turned since w0 -/
structure PSt (w0 wr : World) (U gs k : Nat) (vS vM : Value) (fin value : Int) (steps : Nat) (regs : List Int) (seen : List LSee) (mem : List (List Int)) : Prop where
  box : Blk wr gs 36 #[.int .i64 fin, .int .i64 value, .int .i64 steps, vS, vM]
  rg : Blk wr k 2 (regV regs)
  sn : wr.ownsRow U 98 3 vS seen.length (seen.flatMap seeCells)
  mm : MemOwn wr w0.heap.size U 71 2 vM mem
  bel : Ext w0 wr
  bu : w0.heap.size ≤ U
  ug : U ≤ gs
  uk : U ≤ k
section
variable {w0 wr w' : World} {U gs k : Nat} {vS vM : Value} {fin value : Int} {steps : Nat} {regs : List Int} {seen : List LSee} {mem : List (List Int)}
theorem PSt.size (h : PSt w0 wr U gs k vS vM fin value steps regs seen mem) : U ≤ wr.heap.size := by have := h.box.lt; have := h.ug; omega
theorem PSt.ext (h : PSt w0 wr U gs k vS vM fin value steps regs seen mem) (hx : Ext wr w') : PSt w0 w' U gs k vS vM fin value steps regs seen mem :=
  ⟨h.box.ext hx, h.rg.ext hx, own_ext h.sn hx, h.mm.below (Below.mono hx h.size), h.bel.trans hx, h.bu, h.ug, h.uk⟩
theorem PSt.kg (h : PSt w0 wr U gs k vS vM fin value steps regs seen mem) : k ≠ gs := Blk.ne_ h.rg h.box (by decide)
theorem PSt.sg (h : PSt w0 wr U gs k vS vM fin value steps regs seen mem) : some gs ≠ vS.ownBlock := own_ne h.sn h.box (by decide)
theorem PSt.sk (h : PSt w0 wr U gs k vS vM fin value steps regs seen mem) : some k ≠ vS.ownBlock := own_ne h.sn h.rg (by decide)
theorem set_below {B : Nat} (w : World) (p : Addr) (u : Value) (hp : B ≤ p.block) : Below B w (w.setCell p u) := Below.setCell (Below.refl _ _) hp u
/-- a field of the run put -/
theorem PSt.field (h : PSt w0 wr U gs k vS vM fin value steps regs seen mem) (i : Nat) (u : Value) {fin' value' : Int} {steps' : Nat}
    (hc : (#[.int .i64 fin, .int .i64 value, .int .i64 steps, vS, vM] : Array Value).setIfInBounds i u = #[.int .i64 fin', .int .i64 value', .int .i64 steps', vS, vM]) :
    PSt w0 (wr.setCell ⟨gs, i, none⟩ u) U gs k vS vM fin' value' steps' regs seen mem :=
  ⟨by rw [← hc]; exact h.box.set_ i u, h.rg.far (p := ⟨gs, i, none⟩) h.kg u, own_far h.sn h.sg u, h.mm.below (set_below _ _ _ h.ug), h.bel.setCell (Nat.le_trans h.bu h.ug) u, h.bu, h.ug, h.uk⟩
/-- registers put -/
theorem PSt.regs_ (h : PSt w0 wr U gs k vS vM fin value steps regs seen mem) {regs' : List Int} (hg : wr.grownBy w' (some k)) (hb : Blk w' k 2 (regV regs')) : PSt w0 w' U gs k vS vM fin value steps regs' seen mem :=
  ⟨h.box.grown hg (by intro e; simp only [Option.some.injEq] at e; exact h.kg e.symm), hb, own_grown h.sn hg (fun j e => by simp only [Option.some.injEq] at e; subst e; exact fun e => h.sk e.symm),
    h.mm.below (grown_below (Below.refl _ _) hg h.size (fun j e => by simp only [Option.some.injEq] at e; subst e; exact h.uk)),
    grown_below h.bel hg h.bel.size (fun j e => by simp only [Option.some.injEq] at e; subst e; exact Nat.le_trans h.bu h.uk), h.bu, h.ug, h.uk⟩
theorem PSt.reg1 (h : PSt w0 wr U gs k vS vM fin value steps regs seen mem) (a v : Int) : PSt w0 (wr.setCell ⟨k, a.toNat, none⟩ (.int .i64 v)) U gs k vS vM fin value steps (rset regs a v) seen mem :=
  h.regs_ (set_grown _ _ _) (by rw [← regV_set]; exact h.rg.set_ _ _)
/-- something shown: behind the append -/
theorem PSt.show1 (h : PSt w0 wr U gs k vS vM fin value steps regs seen mem) {vS' : Value} (hg : wr.grownBy w' vS.ownBlock) :
    Blk w' gs 36 #[.int .i64 fin, .int .i64 value, .int .i64 steps, vS, vM] := h.box.grown hg h.sg
/-- and its store -/
theorem PSt.show2 (h : PSt w0 wr U gs k vS vM fin value steps regs seen mem) {vS' : Value} {seen' : List LSee} (hg : wr.grownBy w' vS.ownBlock) (ho : w'.ownsRow U 98 3 vS' seen'.length (seen'.flatMap seeCells)) :
    PSt w0 (w'.setCell ⟨gs, 3, none⟩ vS') U gs k vS' vM fin value steps regs seen' mem := by
  have hb := h.box.grown hg h.sg
  have hne : some gs ≠ vS'.ownBlock := own_ne ho hb (by decide)
  have hbl : Below U wr w' := grown_below (Below.refl _ _) hg h.size (own_base h.sn)
  exact ⟨hb.set_ 3 vS', (h.rg.grown hg h.sk).far (p := ⟨gs, 3, none⟩) h.kg _, own_far ho hne _, (h.mm.below hbl).below (set_below _ _ _ h.ug),
    (grown_below h.bel hg h.bel.size (fun j e => Nat.le_trans h.bu (own_base h.sn j e))).setCell (Nat.le_trans h.bu h.ug) _, h.bu, h.ug, h.uk⟩
/-- a word put -/
theorem PSt.word (h : PSt w0 wr U gs k vS vM fin value steps regs seen mem) {c x ko j cap capo : Nat} (hc : c < mem.length) (hx : x < (mem.getD c default).length)
    (hv : vM = .slice (some ⟨ko, 0, none⟩) mem.length capo) (hk : wr.cell? ⟨ko, c, none⟩ = some (.slice (some ⟨j, 0, none⟩) (mem.getD c default).length cap)) (hB : w0.heap.size ≤ j) (hj : j < U) (z : Int) :
    PSt w0 (wr.setCell ⟨j, x, none⟩ (.int .i64 z)) U gs k vS vM fin value steps regs seen (mem.set c ((mem.getD c default).set x z)) := by
  have h1 := h.ug
  have h2 := h.uk
  exact ⟨h.box.far (p := ⟨j, x, none⟩) (by simp only; omega) _, h.rg.far (p := ⟨j, x, none⟩) (by simp only; omega) _,
    own_far h.sn (by intro e; have := own_base h.sn j e.symm; omega) _, h.mm.set_ (by decide) hc hx hv hk z, h.bel.setCell hB _, h.bu, h.ug, h.uk⟩
theorem PSt.cells (h : PSt w0 wr U gs k vS vM fin value steps regs seen mem) :
    (wr.cell? ⟨gs, 0, none⟩ = some (.int .i64 fin) ∧ wr.frozen? ⟨gs, 0, none⟩ = false) ∧ (wr.cell? ⟨gs, 1, none⟩ = some (.int .i64 value) ∧ wr.frozen? ⟨gs, 1, none⟩ = false) ∧ (wr.cell? ⟨gs, 2, none⟩ = some (.int .i64 steps) ∧ wr.frozen? ⟨gs, 2, none⟩ = false) ∧
      (wr.cell? ⟨gs, 3, none⟩ = some vS ∧ wr.frozen? ⟨gs, 3, none⟩ = false) ∧ (wr.cell? ⟨gs, 4, none⟩ = some vM ∧ wr.frozen? ⟨gs, 4, none⟩ = false) := by
  refine ⟨⟨?_, h.box.frozen _⟩, ⟨?_, h.box.frozen _⟩, ⟨?_, h.box.frozen _⟩, ⟨?_, h.box.frozen _⟩, ⟨?_, h.box.frozen _⟩⟩ <;> rw [h.box.cell] <;> rfl
end
theorem MemOwn.far {w : World} {B U : Nat} {T E : TypeId} {v : Value} {m : List (List Int)} (h : MemOwn w B U T E v m) {p : Addr} (hp : p.block < B) (u : Value) : MemOwn (w.setCell p u) B U T E v m := by
  obtain ⟨vs, h1, h2, h3, h4, h5⟩ := h
  have key : ∀ {e : TypeId} {s n : Nat} {v : Value} {xs : List Value}, w.ownsRow B e s v n xs → (w.setCell p u).ownsRow B e s v n xs := fun ho =>
    own_far ho (fun e => by have := own_base ho _ e.symm; omega) u
  exact ⟨vs, h1, key h2, h3, fun i hi => ⟨key (h4 i hi).1, (h4 i hi).2⟩, h5⟩
/-- how many steps a run has done, as memory has it -/
def stepsAt (w : World) (g : Nat) : Nat := match w.cell? ⟨g, 2, none⟩ with
  | some (.int _ n) => n.toNat
  | _ => 0
theorem stepsAt_of {w0 wr : World} {U gs k : Nat} {vS vM : Value} {fin value : Int} {steps : Nat} {regs : List Int} {seen : List LSee} {mem : List (List Int)} (h : PSt w0 wr U gs k vS vM fin value steps regs seen mem) : stepsAt wr gs = steps := by
  unfold stepsAt
  rw [h.cells.2.2.1.1]
  simp

/-! runs, step by step -/
structure MOk (p : LProg) (M : Mach) : Prop where
  len : M.regs.length = 10
  r64 : All64 M.regs
  wlen : M.words.length = total p
  w64 : All64 M.words
theorem MOk.step {p : LProg} {M : Mach} {i : LIns} (h : MOk p M) (hi : i.fits) : MOk p (stepM p i M) := by
  unfold stepM
  obtain ⟨h1, h2, h3, h4⟩ := h
  simp only
  repeat' split
  all_goals first
    | exact ⟨h1, h2, h3, h4⟩
    | exact ⟨h1, h2, by simpa using h3, h4.set _ (h2 _)⟩
    | exact ⟨by rw [rset_len]; exact h1, h2.rset _ (h4 _), h3, h4⟩
    | exact ⟨by rw [plain_len]; exact h1, all64_plain h2 hi.2.2.2.2, h3, h4⟩
theorem all64_of {l : List Int} (h : ∀ x ∈ l, R64 x) : All64 l := fun n => by
  by_cases hn : n < l.length
  · have : l.getD n 0 = l[n] := by simp [hn]
    rw [this]; exact h _ (List.getElem_mem hn)
  · rw [List.getD_eq_getElem?_getD, List.getElem?_eq_none (by omega)]
    exact r64_zero
theorem All64.mem {l : List Int} (h : All64 l) : ∀ x ∈ l, R64 x := fun x hx => by
  obtain ⟨n, hn, rfl⟩ := List.getElem_of_mem hx
  have := h n
  simpa [hn] using this
theorem mok_start {p : LProg} {m : List (List Int)} (hf : fitsOk p m = true) (h : ∀ l ∈ m, ∀ x ∈ l, R64 x) : MOk p (start m.flatten) :=
  ⟨by simp [start], all64_of (fun x hx => by simp only [start, List.mem_replicate] at hx; rw [hx.2]; exact r64_zero), flat_total hf, all64_of (fun x hx => by
    simp only [start, List.mem_flatten] at hx
    obtain ⟨l, hl, hx⟩ := hx
    exact h l hl x hx)⟩
structure MGood (p : LProg) (M : Mach) : Prop where
  ok : MOk p M
  at_ : M.at_ ≤ p.code.length
  seen : M.seen.length ≤ 2 * M.steps
theorem MGood.step {p : LProg} {M : Mach} {i : LIns} (h : MGood p M) (hi : i.fits) (hok : insOk p 10 i = true) (hlt : M.at_ < p.code.length) : MGood p (stepM p i M) := by
  obtain ⟨h1, h2, h3⟩ := h
  refine ⟨h1.step hi, ?_, ?_⟩
  · have hj := (ins_regs hok).2.2.2.2.2.2.2.2.2.1
    unfold stepM
    simp only
    repeat' split
    all_goals first
      | (simp only; omega)
      | (have := (hj (.inl ‹_›)).2; simp only; omega)
      | (have := (hj (.inr ‹_›)).2; simp only; omega)
  · rw [stepM_steps]
    unfold stepM
    simp only
    repeat' split
    all_goals (simp only [List.length_append, List.length_cons, List.length_nil, plainS]; try split)
    all_goals (try simp only [List.length_cons, List.length_nil])
    all_goals omega
theorem mgood_start {p : LProg} {m : List (List Int)} (hf : fitsOk p m = true) (h : ∀ l ∈ m, ∀ x ∈ l, R64 x) : MGood p (start m.flatten) := ⟨mok_start hf h, by simp [start], by simp [start]⟩
theorem runM_stop {p : LProg} {M : Mach} {n : Nat} (hn : 0 < n) (hf : M.fin = 0) (hi : p.code[M.at_]? = none) : runM p n M = { M with fin := 2 } := by
  obtain ⟨k, rfl⟩ : ∃ k, n = k + 1 := ⟨n - 1, by omega⟩
  rw [runM, if_neg (by omega), hi]
theorem runM_go {p : LProg} {M : Mach} {n : Nat} {i : LIns} (hn : 0 < n) (hf : M.fin = 0) (hi : p.code[M.at_]? = some i) : runM p n M = runM p (n - 1) (stepM p i M) := by
  obtain ⟨k, rfl⟩ : ∃ k, n = k + 1 := ⟨n - 1, by omega⟩
  rw [runM, if_neg (by omega), hi]
  simp
theorem runM_zero {p : LProg} {M : Mach} : runM p 0 M = M := rfl
theorem play_next {p : LProg} {M F : Mach} {i : LIns} {fuel : Nat} (hgo : MGood p M) (hi : p.code[M.at_]? = some i) (hok : insOk p 10 i = true) (hfi : i.fits) (hlt : M.steps < fuel) (hfin : M.fin = 0) (hrun : runM p (fuel - M.steps) M = F) :
    MGood p (stepM p i M) ∧ (stepM p i M).steps ≤ fuel ∧ runM p (fuel - (stepM p i M).steps) (stepM p i M) = F := by
  have hat : M.at_ < p.code.length := (List.getElem?_eq_some_iff.1 hi).1
  refine ⟨hgo.step hfi hok hat, by rw [stepM_steps]; omega, ?_⟩
  rw [runM_go (by omega) hfin hi] at hrun
  rw [stepM_steps, ← hrun]
  congr 1
theorem play_last {p : LProg} {M F : Mach} {i : LIns} {fuel : Nat} (hgo : MGood p M) (hi : p.code[M.at_]? = some i) (hok : insOk p 10 i = true) (hfi : i.fits) (hlt : M.steps < fuel) (hfin : M.fin = 0) (hrun : runM p (fuel - M.steps) M = F) (hf : (stepM p i M).fin ≠ 0) :
    F = stepM p i M := by
  rw [← (play_next hgo hi hok hfi hlt hfin hrun).2.2, runM_end hf]
theorem word_parts {p : LProg} {i : LIns} (hok : insOk p 10 i = true) (h : i.op = 3 ∨ i.op = 4 ∨ i.op = 5 ∨ i.op = 6) : okIn 10 i.a = true ∧ okIn 10 i.b = true ∧ 0 ≤ i.c ∧ i.c.toNat < p.regs.length := by
  have hr : (isPut i || isTake i) = true := by unfold isPut isTake; rcases h with h | h | h | h <;> simp [h]
  have hc := region_there hok hr
  refine ⟨?_, ?_, hc⟩ <;> (unfold insOk at hok; rcases h with h | h | h | h <;> simp [h, okIn] at hok ⊢ <;> omega)
theorem step_fault {p : LProg} {i : LIns} {M : Mach} (h : i.op = 3 ∨ i.op = 4 ∨ i.op = 5 ∨ i.op = 6) (hin : insideB p i (idxOf M.regs i) = false) :
    stepM p i M = { M with at_ := M.at_ + 1, steps := M.steps + 1, seen := M.seen ++ [⟨1, M.at_, 0⟩], fin := 2 } := by
  have hr : (isPut i || isTake i) = true := by unfold isPut isTake; rcases h with h | h | h | h <;> simp [h]
  unfold stepM
  simp only
  rw [if_neg (by omega), if_neg (by omega), if_neg (by omega), if_pos hr, if_neg (by rw [hin]; simp)]
theorem step_put {p : LProg} {i : LIns} {M : Mach} (h : i.op = 4 ∨ i.op = 6) (hin : insideB p i (idxOf M.regs i) = true) :
    stepM p i M = { M with at_ := M.at_ + 1, steps := M.steps + 1, seen := M.seen ++ [⟨1, M.at_, 0⟩] ++ [⟨2, ((baseOf p i.c.toNat + (idxOf M.regs i).toNat : Nat) : Int), 1⟩], words := M.words.set (baseOf p i.c.toNat + (idxOf M.regs i).toNat) (rg M.regs i.a) } := by
  have hp : isPut i = true := by unfold isPut; rcases h with h | h <;> simp [h]
  unfold stepM putN
  simp only [hp, Bool.true_or, if_true]
  rw [if_neg (by omega), if_neg (by omega), if_neg (by omega), if_pos hin]
theorem step_take {p : LProg} {i : LIns} {M : Mach} (h : i.op = 3 ∨ i.op = 5) (hin : insideB p i (idxOf M.regs i) = true) :
    stepM p i M = { M with at_ := M.at_ + 1, steps := M.steps + 1, seen := M.seen ++ [⟨1, M.at_, 0⟩] ++ [⟨2, ((baseOf p i.c.toNat + (idxOf M.regs i).toNat : Nat) : Int), 0⟩], regs := rset M.regs i.a (M.words.getD (baseOf p i.c.toNat + (idxOf M.regs i).toNat) 0) } := by
  have hp : isPut i = false := by unfold isPut; rcases h with h | h <;> simp [h]
  have ht : isTake i = true := by unfold isTake; rcases h with h | h <;> simp [h]
  unfold stepM putN
  simp only [hp, ht, Bool.false_or, if_true]
  rw [if_neg (by omega), if_neg (by omega), if_neg (by omega), if_pos hin]
  simp
theorem step_plain {p : LProg} {i : LIns} {M : Mach} (h : i.op ≠ 3 ∧ i.op ≠ 4 ∧ i.op ≠ 5 ∧ i.op ≠ 6 ∧ i.op ≠ 7 ∧ i.op ≠ 8 ∧ i.op ≠ 9) :
    stepM p i M = { M with at_ := M.at_ + 1, steps := M.steps + 1, seen := M.seen ++ [⟨1, M.at_, 0⟩] ++ plainS M.regs i, regs := plainR M.regs i } := by
  have hr : (isPut i || isTake i) = false := by unfold isPut isTake; simp; omega
  unfold stepM
  simp only
  rw [if_neg (by omega), if_neg (by omega), if_neg (by omega), if_neg (by rw [hr]; simp)]
/-- what a run has shown, put into the result -/
theorem play_end {p : LProg} {M : Mach} {w w0 w1 : World} {U gs k g : Nat} {vS vM x0 x1 x2 x3 x4 : Value} (P : PSt w0 w1 U gs k vS vM M.fin M.value M.steps M.regs M.seen (splitW p M.words)) (h64 : All64 M.words)
    (hR : Blk w1 g 36 #[x0, x1, x2, x3, x4]) (hg : w.heap.size ≤ g) (hgB : g < w0.heap.size) (hx : Ext w w0) {w2 : World}
    (hw : w2 = ((((w1.setCell ⟨g, 0, none⟩ (.int .i64 M.fin)).setCell ⟨g, 1, none⟩ (.int .i64 M.value)).setCell ⟨g, 2, none⟩ (.int .i64 M.steps)).setCell ⟨g, 3, none⟩ vS).setCell ⟨g, 4, none⟩ vM) :
    Blk w2 g 36 #[.int .i64 M.fin, .int .i64 M.value, .int .i64 M.steps, vS, vM] ∧ ShownAt w2 (.agg #[.int .i64 M.fin, .int .i64 M.value, .int .i64 M.steps, vS, vM]) M.fin M.value M.steps M.seen (splitW p M.words) ∧ Ext w w2 := by
  subst hw
  have hne := own_ne P.sn hR (by decide)
  refine ⟨((((hR.set_ 0 _).set_ 1 _).set_ 2 _).set_ 3 _).set_ 4 _, ⟨vS, vM, rfl, seen_own (own_far (own_far (own_far (own_far (own_far P.sn hne _) hne _) hne _) hne _) hne _), ?_⟩, ?_⟩
  · exact (((((P.mm.far (p := ⟨g, 0, none⟩) hgB _).far (p := ⟨g, 1, none⟩) hgB _).far (p := ⟨g, 2, none⟩) hgB _).far (p := ⟨g, 3, none⟩) hgB _).far (p := ⟨g, 4, none⟩) hgB _).mem (words_all p _ R64 h64.mem)
  · exact (((((hx.trans P.bel).setCell hg _).setCell hg _).setCell hg _).setCell hg _).setCell hg _
end Go.Proofs.Yteiknefajlocoaa
