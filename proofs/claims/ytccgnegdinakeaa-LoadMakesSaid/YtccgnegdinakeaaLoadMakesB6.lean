/- Laid together from: Base, Ref1P, KnownL, CheckL, CheckQ, CheckS, Typed, HardP, Form, Mem, Upd, Sim, FenceP. -/
import Derived.WalkKit
import Derived.ProofKit
import Derived.OpenShut
import Derived.Below
import Derived.ChangeSame
import Derived.Deep.Draws
import Derived.Lib.Hide
import Derived.Deep.MidRow
import Derived.Laws.OwnMore
import Derived.Laws.ResultCell
import Derived.Test.YtccgnegdinakeaaLoadMakesB3
import Derived.Test.YtccgnegdinakeaaLoadMakesB2
import Derived.Test.YtccgnegdinakeaaLoadMakesB1

/- Words of our own for memory: 'Ext w w'': of what was there nothing has turned. No program in sight. -/
namespace Go.Proofs.Ytccgnegdinakeaa
open Go.RowKit Go.WideShapes Go.ChangeShapes

theorem ret_b {a b : Bool} (h : a = b) : Ending.returned (.bool a) = .returned (.bool b) := by rw [h]
def Ext (w w' : World) : Prop := Below w.heap.size w w'
section
variable {a w w' w'' : World}
theorem Ext.refl (w : World) : Ext w w := Below.refl _ w
theorem Ext.size (h : Ext w w') : w.heap.size ≤ w'.heap.size := Below.size h
theorem Ext.trans (h : Ext w w') (k : Ext w' w'') : Ext w w'' := Below.trans h (Below.mono k h.size)
theorem Ext.drew (h : Ext a w) : Ext a w.drew := Below.drew h
theorem Ext.drewN (h : Ext a w) (n : Nat) : Ext a (w.drewN n) := ⟨h.os, h.tape, h.output, h.size, h.block⟩
theorem Ext.alloc (h : Ext a w) (o : Obj) : Ext a (w.alloc o) := Below.alloc h h.size o
theorem Ext.setCell (h : Ext a w) {p : Addr} (hp : a.heap.size ≤ p.block) (u : Value) : Ext a (w.setCell p u) := Below.setCell h hp u
theorem Ext.cell (h : Ext w w') {p : Addr} (hp : p.block < w.heap.size) : w'.cell? p = w.cell? p := Below.cell h hp
theorem Ext.frozen (h : Ext w w') {p : Addr} (hp : p.block < w.heap.size) : w'.frozen? p = w.frozen? p := Below.frozen h hp
theorem block_lt {p : Addr} {v : Value} (h : w.cell? p = some v) : p.block < w.heap.size := block_lt_of_cell h
theorem Ext.kept (h : Ext w w') {p : Addr} {v : Value} (hc : w.cell? p = some v) : w'.cell? p = some v := by rw [h.cell (block_lt hc)]; exact hc
theorem Ext.lt (h : Ext w w') {k : Nat} (hk : k < w.heap.size) : k < w'.heap.size := Nat.lt_of_lt_of_le hk h.size
theorem Ext.grown (h : Ext a w) {row : Option Nat} (hg : w.grownBy w' row) (hr : ∀ k, row = some k → a.heap.size ≤ k) : Ext a w' := Below.grown h hg h.size hr
end

/-- Block g holds just the cells cs. -/
def Blk (w : World) (g : Nat) (t : TypeId) (cs : Array Value) : Prop := w.heap[g]? = some (.cells cs t (0, 0))
def setAll (cs : Array Value) : Nat → List Value → Array Value
  | _, [] => cs
  | o, v :: r => setAll (cs.setIfInBounds o v) (o + 1) r
theorem setAll_get (vs : List Value) : ∀ (cs : Array Value) (o j : Nat), (setAll cs o vs)[j]? = if o ≤ j ∧ j < o + vs.length ∧ j < cs.size then vs[j - o]? else cs[j]? := by
  induction vs with
  | nil => intro cs o j; simp [setAll]; intro h1 h2; omega
  | cons v r ih =>
    intro cs o j
    rw [setAll, ih]
    simp only [Array.size_setIfInBounds, List.length_cons]
    by_cases h1 : o + 1 ≤ j ∧ j < o + 1 + r.length ∧ j < cs.size
    · rw [if_pos h1, if_pos ⟨by omega, by omega, h1.2.2⟩, show j - o = (j - (o + 1)) + 1 by omega, List.getElem?_cons_succ]
    · rw [if_neg h1]
      by_cases h2 : j = o
      · subst h2
        by_cases h3 : j < cs.size
        · rw [if_pos ⟨Nat.le_refl _, by omega, h3⟩]; simp [h3]
        · rw [if_neg (by omega)]; simp [h3]
      · rw [if_neg (by omega), Array.getElem?_setIfInBounds_ne (by omega)]
theorem setAll_all (cs : Array Value) (vs : List Value) (h : vs.length = cs.size) : setAll cs 0 vs = vs.toArray := by
  apply Array.ext_getElem?
  intro j
  rw [setAll_get]
  by_cases hj : j < cs.size
  · rw [if_pos ⟨by omega, by omega, hj⟩]; simp
  · rw [if_neg (by omega), Array.getElem?_eq_none (by omega), Array.getElem?_eq_none (by simp; omega)]
section
variable {w w' : World} {g : Nat} {t : TypeId} {cs : Array Value}
theorem Blk.lt (h : Blk w g t cs) : g < w.heap.size := by
  rcases Nat.lt_or_ge g w.heap.size with hlt | hge
  · exact hlt
  · unfold Blk at h; rw [Array.getElem?_eq_none hge] at h; cases h
theorem Blk.cell (h : Blk w g t cs) (i : Nat) : w.cell? ⟨g, i, none⟩ = cs[i]? := cell_of_row w g i cs t (0, 0) h
theorem Blk.frozen (h : Blk w g t cs) (i : Nat) : w.frozen? ⟨g, i, none⟩ = false := by
  unfold Blk at h
  simp [World.frozen?, h]
theorem Blk.new (w : World) (t : TypeId) (cs : Array Value) : Blk (w.alloc (.cells cs t)) w.heap.size t cs := heap_alloc_new w _
theorem Blk.drew (h : Blk w g t cs) : Blk w.drew g t cs := h
theorem Blk.drewN (h : Blk w g t cs) (n : Nat) : Blk (w.drewN n) g t cs := h
theorem Blk.alloc (h : Blk w g t cs) (o : Obj) : Blk (w.alloc o) g t cs := (Below.heap_alloc w o g h.lt).trans h
theorem Blk.set_ (h : Blk w g t cs) (i : Nat) (u : Value) : Blk (w.setCell ⟨g, i, none⟩ u) g t (cs.setIfInBounds i u) := by
  unfold Blk at h ⊢
  simp [World.setCell, Array.getElem?_modify, h]
theorem Blk.far (h : Blk w g t cs) {p : Addr} (hp : g ≠ p.block) (u : Value) : Blk (w.setCell p u) g t cs := (Below.heap_setCell w p u g hp).trans h
theorem Blk.ext (h : Blk w g t cs) (hb : Ext w w') : Blk w' g t cs := (Below.block hb g h.lt).trans h
theorem Blk.below {B : Nat} (h : Blk w g t cs) (hb : Below B w w') (hg : g < B) : Blk w' g t cs := (hb.block g hg).trans h
theorem Blk.setCells (vs : List Value) : ∀ {w : World} {cs : Array Value} (_ : Blk w g t cs) (o : Nat), Blk (w.setCells g o vs) g t (setAll cs o vs) := by
  induction vs with
  | nil => intro w cs h o; exact h
  | cons v r ih => intro w cs h o; exact ih (h.set_ o v) (o + 1)
theorem Blk.setCells_all (h : Blk w g t cs) (vs : List Value) (hl : vs.length = cs.size) : Blk (w.setCells g 0 vs) g t vs.toArray := by
  have := Blk.setCells (t := t) vs h 0
  rwa [setAll_all cs vs hl] at this
theorem Blk.there (h : Blk w g t cs) (o n : Nat) (hn : o + n ≤ cs.size) : w.there g o n := fun j hj => by
  refine ⟨?_, h.frozen _⟩
  rw [h.cell]
  simp; omega
theorem Blk.range (h : Blk w g t cs) (o : Nat) (l : List Value) (hl : ∀ j v, l[j]? = some v → cs[o + j]? = some v) : w.rangeAt g o l := fun j v hv => by
  rw [h.cell]; exact hl j v hv
theorem Ext.setCells (vs : List Value) : ∀ {a w : World} (_ : Ext a w) {b : Nat} (_ : a.heap.size ≤ b) (o : Nat), Ext a (w.setCells b o vs) := by
  induction vs with
  | nil => intro a w h b hb o; exact h
  | cons v r ih => intro a w h b hb o; exact ih (h.setCell (p := ⟨b, o, none⟩) hb v) hb (o + 1)
end

/-! Laws for loads and stores of whole structs and arrays, at a block that is known whole. -/
section
variable {P : Program} {ops : Array Oper} {rest : List Oper} {a : Act} {w : World} {Q : Exit → Act → World → Prop} {g : Nat} {t : TypeId} {cs : Array Value} {dst : Option Tmp} {T : TypeId} {pos : String} {after : Array Edge}
/-- a load of n cells out of block g from offset o on -/
theorem load_blk (h : Blk w g t cs) (o : Nat) (l : List Value) {ty : TypeId} {x : Operand} {d : TypeDesc} (hx : a.eval x = .pointer (some ⟨g, o, none⟩))
    (hl : ∀ j v, l[j]? = some v → cs[o + j]? = some v) (hu : P.underlying ty = some d) (hd : d.isRow = true) (hi : (P.info? ty).map (·.size) = some l.length)
    (k : wpList P ops Q rest (a.put dst (.agg l.toArray)) w) : wpList P ops Q (⟨dst, .load ty x, T, pos, after, none⟩ :: rest) a w :=
  wpList_load_mid rfl ty x rfl g o hx l d (h.range o l hl) hu hd hi k
/-- a load of a whole block -/
theorem load_all (h : Blk w g t cs) {ty : TypeId} {x : Operand} {d : TypeDesc} (hx : a.eval x = .pointer (some ⟨g, 0, none⟩))
    (hu : P.underlying ty = some d) (hd : d.isRow = true) (hi : (P.info? ty).map (·.size) = some cs.size)
    (k : wpList P ops Q rest (a.put dst (.agg cs)) w) : wpList P ops Q (⟨dst, .load ty x, T, pos, after, none⟩ :: rest) a w :=
  load_blk h 0 cs.toList hx (fun j v hv => by simpa using hv) hu hd (by simpa using hi) (by simpa using k)
/-- a store of a whole block -/
theorem store_all (h : Blk w g t cs) (cs' : Array Value) {ty : TypeId} {x y : Operand} (hx : a.eval x = .pointer (some ⟨g, 0, none⟩)) (hy : a.eval y = .agg cs')
    (hs : cs'.size = cs.size) (hi : (P.info? ty).map (·.size) = some cs'.size) (h1 : cs'.all (·.oneCell') = true)
    (k : wpList P ops Q rest (a.put dst undef) (w.setCells g 0 cs'.toList)) : wpList P ops Q (⟨dst, .store ty x y, T, pos, after, none⟩ :: rest) a w :=
  wpList_store_mid rfl ty x y rfl g 0 cs' hx hy (h.there 0 _ (by omega)) hi h1 k
theorem kept_set {p q : Addr} {v u : Value} (hne : q ≠ p) (h : w.cell? p = some v ∧ w.frozen? p = false) : (w.setCell q u).cell? p = some v ∧ (w.setCell q u).frozen? p = false :=
  ⟨(World.cell?_setCell_other w q p u hne).trans h.1, (World.frozen?_setCell w q p u).trans h.2⟩
theorem some_set {p q : Addr} {u : Value} (h : (w.cell? p).isSome = true) : ((w.setCell q u).cell? p).isSome = true := by
  obtain ⟨v, hv⟩ := Option.isSome_iff_exists.1 h
  by_cases e : q = p
  · subst e; rw [World.cell?_setCell_same _ _ _ hv]; rfl
  · rw [World.cell?_setCell_other _ _ _ _ e, hv]; rfl
theorem some_of {p : Addr} {v : Value} (h : w.cell? p = some v ∧ w.frozen? p = false) : (w.cell? p).isSome = true := by rw [h.1]; rfl
/-- a result of two cells, both stored just now -/
theorem results_two {fn : Func} {p : Tmp} {ty : TypeId} {d : TypeDesc} {v0 v1 : Value} (h0 : (w.cell? ⟨g, 0, none⟩).isSome = true) (h1 : (w.cell? ⟨g, 1, none⟩).isSome = true)
    (hr : fn.results = #[.cell p ty]) (tmps : Array Value) (hp : tmps.getD p undef = .pointer (some ⟨g, 0, none⟩)) (hu : P.underlying ty = some d) (hd : d.isRow = true) (hi : (P.info? ty).map (·.size) = some 2) :
    (results fn tmps).run P ((w.setCell ⟨g, 0, none⟩ v0).setCell ⟨g, 1, none⟩ v1) = .ok (.agg #[v0, v1]) ((w.setCell ⟨g, 0, none⟩ v0).setCell ⟨g, 1, none⟩ v1) := by
  have hp' : tmps[p]?.getD undef = .pointer (some ⟨g, 0, none⟩) := by simpa using hp
  obtain ⟨a0, h0⟩ := Option.isSome_iff_exists.1 h0
  obtain ⟨a1, h1⟩ := Option.isSome_iff_exists.1 h1
  have c0 : ((w.setCell ⟨g, 0, none⟩ v0).setCell ⟨g, 1, none⟩ v1).cell? ⟨g, 0, none⟩ = some v0 :=
    (World.cell?_setCell_other _ _ _ _ (by simp)).trans (World.cell?_setCell_same _ _ _ h0)
  have c1 : ((w.setCell ⟨g, 0, none⟩ v0).setCell ⟨g, 1, none⟩ v1).cell? ⟨g, 1, none⟩ = some v1 :=
    World.cell?_setCell_same _ _ _ ((World.cell?_setCell_other _ _ _ _ (by simp)).trans h1)
  have hc : ((w.setCell ⟨g, 0, none⟩ v0).setCell ⟨g, 1, none⟩ v1).rangeAt g 0 [v0, v1] := fun j v hv => by
    match j, hv with
    | 0, hv => simp at hv; subst hv; exact c0
    | 1, hv => simp at hv; subst hv; exact c1
  simp [results, hr, hp', asAddr, run_loadVar_mid _ g 0 ty [v0, v1] d hc hu hd hi]
theorem Blk.stored (h : Blk w g t cs) (cs' : Array Value) (hs : cs'.size = cs.size) : Blk (w.setCells g 0 cs'.toList) g t cs' := by
  have := h.setCells_all cs'.toList (by simpa using hs)
  simpa using this
theorem results_blk {fn : Func} {p : Tmp} {ty : TypeId} {d : TypeDesc} (h : Blk w g t cs) (hr : fn.results = #[.cell p ty]) (tmps : Array Value) (hp : tmps.getD p undef = .pointer (some ⟨g, 0, none⟩))
    (hu : P.underlying ty = some d) (hd : (match d with | .struct _ | .array _ _ => true | _ => false) = true) (hi : (P.info? ty).map (·.size) = some cs.size) :
    (results fn tmps).run P w = .ok (.agg cs) w :=
  results_cell_row hr tmps w g t cs (0, 0) d hp h hu hd hi
end

section
variable {H : Type} {enc : TypeId × Value → H} {P : Program}
theorem post_of_ext {f : Func} {s : ChangeSpec} {apart fresh handsOn again : Bool} {W W' : World} {args : Array Value} {v : Value} {ds gs : List (DataW H)} {before pa pv : List MemPlace}
    (hW : DataW.Whole enc P f.params.toList s.vars apart W args.toList ds gs before)
    (hres : ∀ (b : Nat) (sp : Nat → Bool) (hd : Bool), DataW.TrodAll enc P W' b sp hd f.resultTypes.toList (v.resultList f.resultTypes.size) (s.fn H (ds ++ gs)).results [])
    (hargs : ∀ sp : Nat → Bool, (∀ p ∈ before, sp p.block = true) → DataW.TrodAll enc P W' 0 sp true f.params.toList args.toList (s.fn H (ds ++ gs)).args pa)
    (hvars : ∀ sp : Nat → Bool, (∀ p ∈ before, sp p.block = true) → DataW.TrodVars enc P W' sp s.vars (s.fn H (ds ++ gs)).vars pv)
    (hps : before = pa ++ pv) (hb : Ext W W')
    (hok : ∀ (j : Nat) (t : TypeId) (r : Value), f.resultTypes[j]? = some t → (v.resultList f.resultTypes.size)[j]? = some r → Value.okWide P W' .any 0 t r) :
    s.post enc P f apart fresh handsOn again W args v W' := by
  have hlt : ∀ p ∈ before, p.block < W.heap.size := fun p hp => hW.lt p hp
  have hold : ∀ p ∈ before, (fun b => decide (b < W.heap.size)) p.block = true := fun p hp => by simpa using hlt p hp
  refine ⟨ds, gs, before, [], pa, pv, hW, hres _ _ _, hargs _ hold, hvars _ hold, World.keptBut_mono (fun p hp => ⟨hp, ?_⟩) (hb.frame (· ∈ before)), fun _ => ?_⟩
  · rw [hps, List.mem_append] at hp
    exact Or.inr hp
  · obtain ⟨_, _, _, _, _, hz, hn⟩ := hW
    refine ⟨hok, _, _, ([] ++ pa) ++ pv, ⟨[] ++ pa, pv, trodAll_append (hargs _ (fun _ _ => rfl)) (hres _ _ _), hvars _ (fun _ _ => rfl), rfl, ?_, ?_⟩, ?_⟩
    · intro b off hp
      have hin : MemPlace.cell b off ∈ before := by rw [hps]; simpa using hp
      rw [Below.frozen hb (hlt _ hin)]
      exact hz b off hin
    · intro ha
      have := hn ha
      rw [hps] at this
      simpa using this
    · intro p hp _
      rw [hps]
      simpa using hp

/-- the arguments read behind the call as they did before -/
theorem all_stays (hl : laidOutB P = true) {W W' : World} {sp : Nat → Bool} (hb : Ext W W') : ∀ {ts : List TypeId} {vs : List Value} {ds : List (DataW H)} {ps : List MemPlace},
    ts.all (fun t => P.readableRec t && decide (t < P.types.size)) = true → DataW.TrodAll enc P W 0 (fun _ => true) true ts vs ds ps → (∀ x ∈ ps, x.block < W.heap.size) → (∀ x ∈ ps, sp x.block = true) → DataW.TrodAll enc P W' 0 sp true ts vs ds ps
  | [], [], [], _, _, h, _, _ => h
  | t :: ts, v :: vs, d :: ds, ps, hr, ⟨p, q, h1, h2, e⟩, hlt, hs => by
    simp only [List.all_cons, Bool.and_eq_true, decide_eq_true_eq] at hr
    exact ⟨p, q, WideElems.Trod_stays hl hr.1.1 hr.1.2 h1 (fun x hx => Below.same hb (hlt x (by rw [e]; exact List.mem_append_left _ hx))) (fun x hx => hs x (by rw [e]; exact List.mem_append_left _ hx)),
      all_stays hl hb hr.2 h2 (fun x hx => hlt x (by rw [e]; exact List.mem_append_right _ hx)) (fun x hx => hs x (by rw [e]; exact List.mem_append_right _ hx)), e⟩
  | [], _ :: _, _, _, _, h, _, _ => h.elim
  | [], [], _ :: _, _, _, h, _, _ => h.elim
  | _ :: _, [], _, _, _, h, _, _ => h.elim
  | _ :: _, _ :: _, [], _, _, h, _, _ => h.elim

/-- THE LAW's END: it has returned true, and of what was there nothing has turned. -/
theorem law_post {f : Func} {s : ChangeSpec} {apart fresh handsOn again : Bool} {W W' : World} {args : Array Value} {ds gs : List (DataW H)} {before : List MemPlace} {tb : TypeId}
    (hl : laidOutB P = true) (hr : f.params.toList.all (fun t => P.readableRec t && decide (t < P.types.size)) = true)
    (hW : DataW.Whole enc P f.params.toList s.vars apart W args.toList ds gs before) (hv : s.vars = []) (hrt : f.resultTypes = #[tb]) (ht : P.underlying tb = some .bool)
    (hfn : (s.fn H (ds ++ gs)).results = [.lit (.bool true)]) (hfa : (s.fn H (ds ++ gs)).args = ds) (hfv : (s.fn H (ds ++ gs)).vars = []) (hb : Ext W W') :
    s.post enc P f apart fresh handsOn again W args (.bool true) W' := by
  have hW' := hW
  have hlt : ∀ p ∈ before, p.block < W.heap.size := fun p hp => hW.lt p hp
  obtain ⟨p, q, hA, hV, rfl, hfz, hnd⟩ := hW
  rw [hv] at hV
  obtain ⟨rfl, rfl⟩ := trodVars_none hV
  simp only [List.append_nil] at hW' hlt
  refine post_of_ext (pa := p) (pv := []) (by simpa using hW') ?_ ?_ ?_ (by simp) hb (ok_one hrt rfl (okWide_bool_mk ht _))
  · intro b sp hd
    rw [hfn, hrt]
    exact trodAll_cons_mk (shut_bool ht _) trodAll_mk0
  · intro sp hs
    rw [hfa]
    exact all_stays hl hb hr hA hlt (fun x hx => hs x (by simpa using hx))
  · intro sp hs
    rw [hfv, hv]
    rfl
end
end Go.Proofs.Ytccgnegdinakeaa
/- The reference's numbers, bit by bit, as plain functions. No program in sight. -/
namespace Go.Proofs.Ytccgnegdinakeaa
open Go.RowKit

/-- bit i of a number -/
def tb (n : Int) (i : Nat) : Bool := decide (n / 2 ^ i % 2 = 1)
/-! what the bits come to -/
/-! dividing bit by bit -/
end Go.Proofs.Ytccgnegdinakeaa
/- WHAT IS KNOWN IS SO, in plain Lean: what comes of numbers that fit fits what is told of it. No program in sight. -/
namespace Go.Proofs.Ytccgnegdinakeaa
open Go.RowKit

theorem khas_17 {b n : Int} (h : nrm b = 17) : khas b n = true := by unfold khas kfit; rw [h]; rfl
theorem khas_iff {b : Int} {m : Nat} (h : nrm b = m) (hm : m ≤ 16) (n : Int) : khas b n = true ↔ 0 ≤ n ∧ n < 2 ^ m := by
  unfold khas kfit
  rw [h, Int.toNat_natCast]
  simp
  omega
theorem bits_of (b : Int) : nrm b = 17 ∨ ∃ m : Nat, nrm b = m ∧ m ≤ 16 := by
  obtain ⟨h0, h1⟩ := nrm_bd b
  by_cases h : nrm b = 17
  · exact .inl h
  · exact .inr ⟨(nrm b).toNat, by omega, by omega⟩
/-- fits fewer, fits more -/
theorem khas_mono {b c n : Int} (h : nrm b ≤ nrm c) (hb : khas b n = true) : khas c n = true := by
  rcases bits_of c with hc | ⟨k, hc, hk⟩
  · exact khas_17 hc
  · rcases bits_of b with hb' | ⟨m, hb', hm⟩
    · omega
    · rw [khas_iff hb' hm] at hb
      rw [khas_iff hc hk]
      have := pow_le m k (by omega)
      omega
end Go.Proofs.Ytccgnegdinakeaa
/- What a check tells is so: no fault, and nothing secret is told. No program in sight. -/
namespace Go.Proofs.Ytccgnegdinakeaa
open Go.RowKit
set_option linter.unusedSimpArgs false
set_option linter.unusedVariables false

/-! which words are secret -/
def secAt : List LReg → Nat → Bool
  | [], _ => false
  | r :: l, n => if n < wordsOf r then r.secret else secAt l (n - wordsOf r)
def secW (p : LProg) (n : Nat) : Bool := secAt p.regs n
/-- two rows of words have the same public ones -/
def Pub (p : LProg) (a b : List Int) : Prop := ∀ n, secW p n = false → a.getD n 0 = b.getD n 0

/-! registers and words are of 64 bits -/
def All64 (l : List Int) : Prop := ∀ n : Nat, R64 (l.getD n 0)
theorem r64_zero : R64 0 := ⟨by omega, by omega⟩
theorem r64_wrap (x : Int) : R64 (wrap64 x) := by unfold R64 wrap64; omega
theorem bits_wrapped (a b : Int) : R64 (bits .and .i64 a b) ∧ R64 (bits .or .i64 a b) ∧ R64 (bits .xor .i64 a b) := by
  have e : ∀ x : Int, R64 (IntKind.i64.wrap x) := fun x => by rw [i64_is]; exact r64_wrap x
  exact ⟨e _, e _, e _⟩
theorem r64_nop {op a b : Int} (ha : R64 a) : R64 (nop op a b) := by
  have hb := bits_wrapped a b
  unfold nop
  repeat' split
  all_goals first | exact r64_wrap _ | exact hb.1 | exact hb.2.1 | exact hb.2.2 | exact ha | exact r64_zero
theorem All64.set {l : List Int} (h : All64 l) (k : Nat) {x : Int} (hx : R64 x) : All64 (l.set k x) := fun n => by
  rw [List.getD_eq_getElem?_getD, List.getElem?_set]
  by_cases e : k = n
  · subst e
    by_cases h2 : k < l.length
    · simpa [h2] using hx
    · simpa [h2] using r64_zero
  · rw [if_neg e, ← List.getD_eq_getElem?_getD]; exact h n
theorem set_get (l : List Int) (k : Nat) (x : Int) (n : Nat) : (l.set k x).getD n 0 = if n = k ∧ n < l.length then x else l.getD n 0 := by
  rw [List.getD_eq_getElem?_getD, List.getElem?_set]
  by_cases e : k = n
  · subst e
    by_cases h2 : k < l.length <;> simp [h2]
  · rw [if_neg e, if_neg (by omega), ← List.getD_eq_getElem?_getD]

/-! what is known of registers is so -/
def Sat (s : KSt) (r : List Int) : Prop := ∀ j, j < 8 → khas (s.getD j default).bits (r.getD j 0) = true
theorem Sat.mono {s t : KSt} {r : List Int} (hs : Sok s) (ht : Sok t) (h : Sat s r) (k : Sle s t) : Sat t r := fun j hj => by
  refine khas_mono ?_ (h j hj)
  rw [nrm_ok (hs.ok j), nrm_ok (ht.ok j)]
  exact (k j).1
theorem Sat.set {s : KSt} {r : List Int} (h : Sat s r) (hl : s.length = 8) (hr : r.length = 10) (a : Int) {k : LKn} {v : Int} (hv : khas k.bits v = true) : Sat (kset s a k) (rset r a v) := fun j hj => by
  rw [kset_get, hl]
  unfold rset
  rw [set_get, hr]
  by_cases e : j = a.toNat
  · rw [if_pos ⟨e, hj⟩, if_pos ⟨e, by omega⟩]; exact hv
  · rw [if_neg (by omega), if_neg (by omega)]; exact h j hj
/-- the state alone is turned, of a register that is as it was -/
theorem Sat.know {s : KSt} {r : List Int} (h : Sat s r) (hl : s.length = 8) (a : Int) {k : LKn} (hv : khas k.bits (rg r a) = true) : Sat (kset s a k) r := fun j hj => by
  rw [kset_get, hl]
  by_cases e : j = a.toNat
  · rw [if_pos ⟨e, hj⟩, e]; exact hv
  · rw [if_neg (by omega)]; exact h j hj
theorem okIn_iff {b n : Int} : okIn b n = true ↔ 0 ≤ n ∧ n < b := by simp [okIn]
theorem Sat.at_ {s : KSt} {r : List Int} (h : Sat s r) {a : Int} (ha : okIn 8 a = true) : khas (kg s a).bits (rg r a) = true := by
  rw [okIn_iff] at ha
  exact h a.toNat (by omega)
/-! one run -/
structure Good (p : LProg) (s : KSt) (a : Plc) : Prop where
  regs : a.regs.length = 10
  r64 : All64 a.regs
  sat : Sat s a.regs
  words : a.words.length = total p
  w64 : All64 a.words
  past : a.past.length = total p
  p64 : ∀ n, All64 (a.past.getD n [])
theorem Good.mono {p : LProg} {s t : KSt} {a : Plc} (hs : Sok s) (ht : Sok t) (h : Good p s a) (k : Sle s t) : Good p t a := ⟨h.1, h.2, h.3.mono hs ht k, h.4, h.5, h.6, h.7⟩
theorem Good.goTo {p : LProg} {s : KSt} {a : Plc} (h : Good p s a) (k : Nat) : Good p s { a with at_ := k } := ⟨h.1, h.2, h.3, h.4, h.5, h.6, h.7⟩
/-- what comes of an instruction of registers alone -/
theorem plainR_cases (r : List Int) (i : LIns) (P : List Int → Prop) (h1 : i.op = 1 → P (rset r i.a i.n)) (h2 : i.op = 2 → P (rset r i.a (rg r i.b))) (h10 : i.op = 10 → P (rset r i.a (wrap64 (rg r i.b + i.n))))
    (h11 : i.op = 11 → (rg r i.a < 0 ∨ i.n ≤ rg r i.a → P (rset r i.a 0)) ∧ (0 ≤ rg r i.a ∧ rg r i.a < i.n → P r)) (h12 : i.op = 12 → P r)
    (ho : i.op ≠ 1 → i.op ≠ 2 → i.op ≠ 10 → i.op ≠ 11 → i.op ≠ 12 → P (rset r i.a (nop (i.op - 20) (rg r i.b) (rg r i.c)))) : P (plainR r i) := by
  unfold plainR
  by_cases e1 : i.op = 1
  · rw [if_pos e1]; exact h1 e1
  rw [if_neg e1]
  by_cases e2 : i.op = 2
  · rw [if_pos e2]; exact h2 e2
  rw [if_neg e2]
  by_cases e10 : i.op = 10
  · rw [if_pos e10]; exact h10 e10
  rw [if_neg e10]
  by_cases e11 : i.op = 11
  · rw [if_pos e11]
    split
    · rename_i h; exact (h11 e11).1 h
    · rename_i h; exact (h11 e11).2 (by omega)
  rw [if_neg e11]
  by_cases e12 : i.op = 12
  · rw [if_pos e12]; exact h12 e12
  rw [if_neg e12]
  exact ho e1 e2 e10 e11 e12
theorem rset_len (r : List Int) (a v : Int) : (rset r a v).length = r.length := by simp [rset]
theorem All64.rset {r : List Int} (h : All64 r) (a : Int) {v : Int} (hv : R64 v) : All64 (rset r a v) := h.set _ hv
theorem all64_plain {r : List Int} {i : LIns} (h : All64 r) (hn : R64 i.n) : All64 (plainR r i) :=
  plainR_cases r i All64 (fun _ => h.rset _ hn) (fun _ => h.rset _ (h _)) (fun _ => h.rset _ (r64_wrap _)) (fun _ => ⟨fun _ => h.rset _ r64_zero, fun _ => h⟩) (fun _ => h) (fun _ _ _ _ _ => h.rset _ (r64_nop (h _)))
theorem plain_len (r : List Int) (i : LIns) : (plainR r i).length = r.length :=
  plainR_cases r i (fun r' => r'.length = r.length) (fun _ => rset_len _ _ _) (fun _ => rset_len _ _ _) (fun _ => rset_len _ _ _) (fun _ => ⟨fun _ => rset_len _ _ _, fun _ => rfl⟩) (fun _ => rfl) (fun _ _ _ _ _ => rset_len _ _ _)
/-- which registers an instruction names, of a program that may be -/
theorem ins_regs {p : LProg} {R : Int} {i : LIns} (h : insOk p R i = true) :
    (i.op = 1 → okIn R i.a = true) ∧ (i.op = 2 → okIn R i.a = true ∧ okIn R i.b = true) ∧ (i.op = 10 → okIn R i.a = true ∧ okIn R i.b = true) ∧ (i.op = 3 ∨ i.op = 4 → okIn R i.a = true ∧ okIn R i.b = true) ∧
      (i.op = 5 ∨ i.op = 6 → okIn R i.a = true) ∧ (i.op = 8 → okIn R i.a = true ∧ okIn R i.b = true ∧ 1 ≤ i.c ∧ i.c ≤ 4) ∧ (i.op = 9 → okIn R i.a = true) ∧ (i.op = 11 → okIn R i.a = true ∧ 1 ≤ i.n ∧ i.n ≤ 64) ∧
      (i.op ≠ 1 → i.op ≠ 2 → i.op ≠ 10 → i.op ≠ 3 → i.op ≠ 4 → i.op ≠ 5 → i.op ≠ 6 → i.op ≠ 7 → i.op ≠ 8 → i.op ≠ 9 → i.op ≠ 11 → i.op ≠ 12 → okIn R i.a = true ∧ okIn R i.b = true ∧ okIn R i.c = true ∧ 21 ≤ i.op ∧ i.op ≤ 30) ∧
      (i.op = 7 ∨ i.op = 8 → 0 ≤ i.n ∧ i.n.toNat < p.code.length) ∧ (1 ≤ i.op ∧ i.op ≤ 12 ∨ 21 ≤ i.op ∧ i.op ≤ 30) := by
  simp only [insOk] at h
  by_cases e1 : i.op = 1
  · simp [e1, okIn] at h ⊢; omega
  by_cases e2 : i.op = 2
  · simp [e2, okIn] at h ⊢; omega
  by_cases e10 : i.op = 10
  · simp [e10, okIn] at h ⊢; omega
  by_cases e3 : i.op = 3 ∨ i.op = 4
  · rcases e3 with e3 | e3 <;> simp [e3, okIn] at h ⊢ <;> omega
  by_cases e5 : i.op = 5 ∨ i.op = 6
  · rcases e5 with e5 | e5 <;> simp [e5, okIn] at h ⊢ <;> omega
  by_cases e7 : i.op = 7
  · simp [e7, okIn] at h ⊢; omega
  by_cases e8 : i.op = 8
  · simp [e8, okIn] at h ⊢; omega
  by_cases e9 : i.op = 9
  · simp [e9, okIn] at h ⊢; omega
  by_cases e11 : i.op = 11
  · simp [e11, okIn] at h ⊢; omega
  by_cases e12 : i.op = 12
  · simp [e12, okIn] at h ⊢
  rw [if_neg e1, if_neg e2, if_neg e10, if_neg e3, if_neg e5, if_neg e7, if_neg e8, if_neg e9, if_neg e11, if_neg e12] at h
  simp [okIn] at h
  simp [okIn]
  omega
end Go.Proofs.Ytccgnegdinakeaa
/- A check's state holds of one run, and of two that have the same public words: an instruction at a time. No program in sight. -/
namespace Go.Proofs.Ytccgnegdinakeaa
open Go.RowKit
set_option linter.unusedSimpArgs false
set_option linter.unusedVariables false

/-! two runs -/
def EqP (s : KSt) (r t : List Int) : Prop := ∀ j, j < 8 → (s.getD j default).sec = false → r.getD j 0 = t.getD j 0
structure MemR (p : LProg) (a b : Plc) : Prop where
  pub : Pub p a.words b.words
  plen : ∀ n, (a.past.getD n []).length = (b.past.getD n []).length
  ppub : ∀ n, secW p n = false → a.past.getD n [] = b.past.getD n []
structure Pair (p : LProg) (s : KSt) (a b : Plc) : Prop where
  ga : Good p s a
  gb : Good p s b
  eq : EqP s a.regs b.regs
  mem : MemR p a b
theorem EqP.mono {s t : KSt} {r u : List Int} (h : EqP s r u) (k : Sle s t) : EqP t r u := fun j hj e => h j hj (by
  cases hs : (s.getD j default).sec
  · rfl
  · rw [(k j).2 hs] at e; cases e)
theorem EqP.set {s : KSt} {r u : List Int} (h : EqP s r u) (hl : s.length = 8) (hr : r.length = 10) (hu : u.length = 10) (a : Int) {k : LKn} {v w : Int} (hv : k.sec = false → v = w) : EqP (kset s a k) (rset r a v) (rset u a w) := fun j hj => by
  rw [kset_get, hl]
  unfold rset
  rw [set_get, set_get, hr, hu]
  by_cases e : j = a.toNat
  · rw [if_pos ⟨e, hj⟩, if_pos ⟨e, by omega⟩, if_pos ⟨e, by omega⟩]; exact hv
  · rw [if_neg (by omega), if_neg (by omega), if_neg (by omega)]; exact h j hj
theorem EqP.at_ {s : KSt} {r u : List Int} (h : EqP s r u) {a : Int} (ha : okIn 8 a = true) (hs : (kg s a).sec = false) : rg r a = rg u a := by
  rw [okIn_iff] at ha
  exact h a.toNat (by omega) hs
theorem EqP.know {s : KSt} {r u : List Int} (h : EqP s r u) (hl : s.length = 8) (a : Int) {k : LKn} (hk : k.sec = (kg s a).sec) : EqP (kset s a k) r u := fun j hj => by
  rw [kset_get, hl]
  by_cases e : j = a.toNat
  · rw [if_pos ⟨e, hj⟩, e, hk]
    intro hs
    exact h a.toNat (by omega) hs
  · rw [if_neg (by omega)]; exact h j hj
theorem Pair.mono {p : LProg} {s t : KSt} {a b : Plc} (hs : Sok s) (ht : Sok t) (h : Pair p s a b) (k : Sle s t) : Pair p t a b := ⟨h.ga.mono hs ht k, h.gb.mono hs ht k, h.eq.mono k, h.mem⟩
theorem Pair.goTo {p : LProg} {s : KSt} {a b : Plc} (h : Pair p s a b) (k l : Nat) : Pair p s { a with at_ := k } { b with at_ := l } := ⟨h.ga.goTo k, h.gb.goTo l, h.eq, ⟨h.mem.1, h.mem.2, h.mem.3⟩⟩

end Go.Proofs.Ytccgnegdinakeaa
/- CheckSafe and CheckQuiet in plain Lean: a program without fault goes wrong nowhere, and tells nothing. No program in sight. -/
namespace Go.Proofs.Ytccgnegdinakeaa
open Go.RowKit
set_option linter.unusedSimpArgs false
set_option linter.unusedVariables false

/-- a program without fault, with its table -/
structure Sound (p : LProg) (T : Tab) : Prop where
  may : mayOk p = true
  n64 : ∀ i ∈ p.code, R64 i.n
  post : Post p T
  none_ : (faultOf p T).1 = 0
theorem insAt_of {p : LProg} {k : Nat} {i : LIns} (h : p.code[k]? = some i) : insAt p k = i := by
  unfold insAt
  rw [List.getD_eq_getElem?_getD, h]; rfl
theorem tg_lt {p : LProg} {T : Tab} (h : Tok p T) {k : Nat} {s : KSt} (hk : tg T k = some s) : k < p.code.length := by
  rcases Nat.lt_or_ge k p.code.length with h1 | h1
  · exact h1
  · unfold tg at hk
    rw [List.getD_eq_getElem?_getD, List.getElem?_eq_none (by rw [h.len]; omega)] at hk
    simp at hk
section
variable {p : LProg} {T : Tab} {k : Nat} {s : KSt} {i : LIns}
theorem Sound.ins (h : Sound p T) (hi : p.code[k]? = some i) : insOk p 8 i = true ∧ R64 i.n := by
  have hm := List.mem_of_getElem? hi
  exact ⟨(may_parts h.may).2.2.2 i hm, h.n64 i hm⟩
theorem Sound.faults (h : Sound p T) (hk : tg T k = some s) (hi : p.code[k]? = some i) : boundK p k s i = true ∧ quietK p s i = true := by
  have := fault_none h.post.tok.len h.none_ k s hk
  rw [insAt_of hi] at this
  exact this
theorem Sound.led (h : Sound p T) (hk : tg T k = some s) (hi : p.code[k]? = some i) {x : Nat × KSt} (hx : x ∈ leadsK p k s i) : x.1 < p.code.length → ∃ t, tg T x.1 = some t ∧ Sle x.2 t := by
  have := h.post.leads k s hk
  rw [insAt_of hi] at this
  exact this x hx
theorem Sound.next (h : Sound p T) (hk : tg T k = some s) (hi : p.code[k]? = some i) (h7 : i.op ≠ 7) (h9 : i.op ≠ 9) : k + 1 < p.code.length := by
  obtain ⟨hb, hq⟩ := h.faults hk hi
  have hlt := tg_lt h.post.tok hk
  have : lastB p k = false := by
    unfold boundK at hb
    rw [if_neg (by omega)] at hb
    split at hb
    · simp only [Bool.and_eq_true] at hb; simpa using hb.1.1
    · simpa using hb
  simp only [lastB, decide_eq_false_iff_not] at this
  omega
end
/-- where two runs of the program itself come to -/
def PP (p : LProg) (T : Tab) (a b : Plc) : Prop := a.at_ = b.at_ ∧ ∃ s, tg T a.at_ = some s ∧ Pair p s a b
theorem PP.to {p : LProg} {T : Tab} (h : Sound p T) {k : Nat} {s s' : KSt} {i : LIns} (hk : tg T k = some s) (hi : p.code[k]? = some i) {a b : Plc} {n : Nat} (hx : (n, s') ∈ leadsK p k s i) (hn : n < p.code.length) (hP : Pair p s' a b) (ha : a.at_ = n) (hb : b.at_ = n) : PP p T a b := by
  obtain ⟨t, ht, hl⟩ := h.led hk hi hx hn
  refine ⟨by rw [ha, hb], t, by rw [ha]; exact ht, hP.mono ?_ (h.post.tok.ok _ _ ht) hl⟩
  exact leadsK_ok p k (h.post.tok.ok k s hk) i _ hx
end Go.Proofs.Ytccgnegdinakeaa
/- Code whose every place bears labels of its registers tells nothing secret, not even ahead of time. No program in sight. -/
namespace Go.Proofs.Ytccgnegdinakeaa
open Go.RowKit
set_option linter.unusedSimpArgs false
set_option linter.unusedVariables false

/-- true: secret -/
abbrev Lab := Nat → Bool
def lb (L : Lab) (r : Int) : Bool := L r.toNat
def lset (L : Lab) (r : Int) (x : Bool) : Lab := fun j => if j = r.toNat then x else L j
def LabLe (L M : Lab) : Prop := ∀ j, j < 10 → M j = false → L j = false
structure Base (p : LProg) (a b : Plc) : Prop where
  ra : a.regs.length = 10
  rb : b.regs.length = 10
  wa : a.words.length = total p
  wb : b.words.length = total p
  pa : a.past.length = total p
  pb : b.past.length = total p
  mem : MemR p a b
def EqL (L : Lab) (r t : List Int) : Prop := ∀ j, j < 10 → L j = false → r.getD j 0 = t.getD j 0
theorem EqL.mono {L M : Lab} {r t : List Int} (h : EqL L r t) (k : LabLe L M) : EqL M r t := fun j hj e => h j hj (k j hj e)
theorem EqL.set {L : Lab} {r t : List Int} (h : EqL L r t) (hr : r.length = 10) (ht : t.length = 10) (a : Int) {x : Bool} {v w : Int} (hv : x = false → v = w) : EqL (lset L a x) (rset r a v) (rset t a w) := fun j hj => by
  unfold lset rset
  rw [set_get, set_get, hr, ht]
  by_cases e : j = a.toNat
  · rw [if_pos e, if_pos ⟨e, hj⟩, if_pos ⟨e, hj⟩]; exact hv
  · rw [if_neg e, if_neg (by omega), if_neg (by omega)]; exact h j hj
theorem EqL.at_ {L : Lab} {r t : List Int} (h : EqL L r t) {a : Int} (ha : okIn 10 a = true) (hs : lb L a = false) : rg r a = rg t a := by
  rw [okIn_iff] at ha
  exact h a.toNat (by omega) hs
theorem Base.goTo {p : LProg} {a b : Plc} (h : Base p a b) (k l : Nat) : Base p { a with at_ := k } { b with at_ := l } := ⟨h.1, h.2, h.3, h.4, h.5, h.6, ⟨h.mem.1, h.mem.2, h.mem.3⟩⟩
theorem Base.regs {p : LProg} {a b : Plc} (h : Base p a b) (k l : Nat) {r t : List Int} (hr : r.length = 10) (ht : t.length = 10) : Base p { a with at_ := k, regs := r } { b with at_ := l, regs := t } := ⟨hr, ht, h.3, h.4, h.5, h.6, ⟨h.mem.1, h.mem.2, h.mem.3⟩⟩
section
variable {p : LProg} {Ann : Nat → Lab → Option (Int × Int) → Prop}
end
end Go.Proofs.Ytccgnegdinakeaa
/- Hardened programs in plain Lean: they are hard, do the same, and tell nothing, not even ahead of time. No program in sight. -/
namespace Go.Proofs.Ytccgnegdinakeaa
open Go.RowKit
set_option linter.unusedSimpArgs false
set_option linter.unusedVariables false

/-! lists of lists in one row -/
section
variable {α β : Type}
/-- where a part begins -/
def plc (f : α → List β) (l : List α) (k : Nat) : Nat := ((l.take k).flatMap f).length
theorem plc_succ (f : α → List β) (l : List α) {k : Nat} {x : α} (h : l[k]? = some x) : plc f l (k + 1) = plc f l k + (f x).length := by
  obtain ⟨hk, rfl⟩ := List.getElem?_eq_some_iff.1 h
  unfold plc
  rw [List.take_succ_eq_append_getElem hk, List.flatMap_append]
  simp
theorem plc_all (f : α → List β) (l : List α) {k : Nat} (h : l.length ≤ k) : plc f l k = (l.flatMap f).length := by
  unfold plc
  rw [List.take_of_length_le h]
theorem plc_mono (f : α → List β) (l : List α) {j k : Nat} (h : j ≤ k) : plc f l j ≤ plc f l k := by
  obtain ⟨d, rfl⟩ : ∃ d, k = j + d := ⟨k - j, by omega⟩
  unfold plc
  rw [List.take_add, List.flatMap_append, List.length_append]
  omega
theorem flat_get (f : α → List β) (l : List α) {k : Nat} {x : α} (h : l[k]? = some x) (j : Nat) (hj : j < (f x).length) : (l.flatMap f)[plc f l k + j]? = (f x)[j]? := by
  obtain ⟨hk, rfl⟩ := List.getElem?_eq_some_iff.1 h
  have e : l = l.take k ++ l[k] :: l.drop (k + 1) := by
    rw [← List.drop_eq_getElem_cons hk, List.take_append_drop]
  have e2 : l.flatMap f = (l.take k).flatMap f ++ (f l[k] ++ (l.drop (k + 1)).flatMap f) := by
    conv => lhs; rw [e]
    rw [List.flatMap_append, List.flatMap_cons]
  rw [e2]
  unfold plc
  rw [List.getElem?_append_right (by omega), Nat.add_sub_cancel_left, List.getElem?_append_left hj]
theorem plc_lt (f : α → List β) (hf : ∀ x, f x ≠ []) (l : List α) {k : Nat} (h : k < l.length) : plc f l k < (l.flatMap f).length := by
  have h1 := plc_succ f l (List.getElem?_eq_getElem h)
  have h2 := plc_mono f l (show k + 1 ≤ l.length by omega)
  rw [plc_all f l (Nat.le_refl _)] at h2
  have := List.length_pos_iff.2 (hf l[k])
  omega
theorem flat_le (f : α → List β) (c : Nat) : ∀ (l : List α), (∀ x ∈ l, (f x).length ≤ c) → (l.flatMap f).length ≤ c * l.length
  | [], _ => by simp
  | x :: l, h => by
    have h1 := h x (by simp)
    have h2 := flat_le f c l fun y hy => h y (by simp [hy])
    rw [List.flatMap_cons, List.length_append, List.length_cons, Nat.mul_succ]
    omega
/-- every place is in some part -/
theorem flat_at (f : α → List β) : ∀ (l : List α) (q : Nat), q < (l.flatMap f).length → ∃ k x j, l[k]? = some x ∧ j < (f x).length ∧ q = plc f l k + j
  | [], q, h => by simp at h
  | x :: l, q, h => by
    rcases Nat.lt_or_ge q (f x).length with h1 | h1
    · exact ⟨0, x, q, by simp, h1, by simp [plc]⟩
    · rw [List.flatMap_cons, List.length_append] at h
      obtain ⟨k, y, j, e1, e2, e3⟩ := flat_at f l (q - (f x).length) (by omega)
      refine ⟨k + 1, y, j, by simpa using e1, e2, ?_⟩
      unfold plc at e3 ⊢
      rw [List.take_succ_cons, List.flatMap_cons, List.length_append]
      omega
end

def blockH (p : LProg) (i : LIns) : List LIns :=
  if i.op = 3 ∨ i.op = 4 then [⟨10, 8, i.b, 0, i.n⟩, ⟨11, 8, 0, 0, ((wordsOf (regOf p i) : Nat) : Int)⟩, ⟨i.op, i.a, 8, i.c, 0⟩] else [i]
def reloc (f : Nat → Nat) (i : LIns) : LIns := if i.op = 7 ∨ i.op = 8 then { i with n := (f i.n.toNat : Nat) } else i
def rawH (p : LProg) : List LIns := p.code.flatMap (blockH p)
def placeH (p : LProg) (k : Nat) : Nat := plc (blockH p) p.code k
def hardP (p : LProg) : LProg := ⟨p.regs, (rawH p).map (reloc (placeH p))⟩

theorem blockH_ne (p : LProg) (i : LIns) : blockH p i ≠ [] := by unfold blockH; split <;> simp
theorem blockH_len (p : LProg) (i : LIns) : (blockH p i).length = if i.op = 3 ∨ i.op = 4 then 3 else 1 := by unfold blockH; split <;> rfl
theorem hardP_len (p : LProg) : (hardP p).code.length ≤ 3 * p.code.length := by
  simp only [hardP, rawH, List.length_map]
  refine flat_le (blockH p) 3 p.code fun x _ => ?_
  rw [blockH_len]
  split <;> omega
theorem reloc_other {f : Nat → Nat} {i : LIns} (h : ¬ (i.op = 7 ∨ i.op = 8)) : reloc f i = i := by unfold reloc; rw [if_neg h]
theorem placeH_lt {p : LProg} {k : Nat} (h : k < p.code.length) : placeH p k < (hardP p).code.length := by
  simp only [hardP, rawH, List.length_map]
  exact plc_lt _ (blockH_ne p) _ h
/-- one instruction that is left as it is -/
theorem hard_one {p : LProg} {k : Nat} {i : LIns} (h : p.code[k]? = some i) (h3 : ¬ (i.op = 3 ∨ i.op = 4)) : (hardP p).code[placeH p k]? = some (reloc (placeH p) i) ∧ placeH p (k + 1) = placeH p k + 1 := by
  have e : blockH p i = [i] := by unfold blockH; rw [if_neg h3]
  have h1 := flat_get (blockH p) p.code h 0 (by rw [e]; simp)
  have h2 := plc_succ (blockH p) p.code h
  rw [e] at h1 h2
  refine ⟨?_, h2⟩
  simp only [hardP, rawH, List.getElem?_map]
  have h1' : (p.code.flatMap (blockH p))[placeH p k]? = some i := by simpa [placeH] using h1
  rw [h1']; rfl
/-- one that becomes three -/
theorem hard_three {p : LProg} {k : Nat} {i : LIns} (h : p.code[k]? = some i) (h3 : i.op = 3 ∨ i.op = 4) :
    (hardP p).code[placeH p k]? = some ⟨10, 8, i.b, 0, i.n⟩ ∧ (hardP p).code[placeH p k + 1]? = some ⟨11, 8, 0, 0, ((wordsOf (regOf p i) : Nat) : Int)⟩ ∧ (hardP p).code[placeH p k + 2]? = some ⟨i.op, i.a, 8, i.c, 0⟩ ∧ placeH p (k + 1) = placeH p k + 3 := by
  have e : blockH p i = [⟨10, 8, i.b, 0, i.n⟩, ⟨11, 8, 0, 0, ((wordsOf (regOf p i) : Nat) : Int)⟩, ⟨i.op, i.a, 8, i.c, 0⟩] := by unfold blockH; rw [if_pos h3]
  have g := fun j hj => flat_get (blockH p) p.code h j (by rw [e]; exact hj)
  have h2 := plc_succ (blockH p) p.code h
  rw [e] at h2
  simp only [e] at g
  have m : ∀ (q : Nat) (x : LIns), (p.code.flatMap (blockH p))[q]? = some x → ¬ (x.op = 7 ∨ x.op = 8) → (hardP p).code[q]? = some x := by
    intro q x hq hx
    simp only [hardP, rawH, List.getElem?_map, hq, Option.map_some, reloc_other hx]
  refine ⟨m _ _ (by simpa [placeH] using g 0 (by simp)) (by simp), m _ _ (by simpa [placeH] using g 1 (by simp)) (by simp), m _ _ (by simpa [placeH] using g 2 (by simp)) ?_, h2⟩
  show ¬ (i.op = 7 ∨ i.op = 8)
  omega
theorem insOk_regs {p q : LProg} (hr : p.regs = q.regs) {R : Int} {i : LIns} (h : insOk p R i = true) (h7 : ¬ (i.op = 7 ∨ i.op = 8)) : insOk q R i = true := by
  simp only [insOk] at *
  rw [← hr]
  by_cases e7 : i.op = 7
  · omega
  by_cases e8 : i.op = 8
  · omega
  simp only [e7, e8, if_false] at *
  exact h
/-- HARDENED, IT IS HARD -/
theorem hard_hard {p : LProg} (hm : mayOk p = true) : hardOk (hardP p) = true := by
  obtain ⟨m1, m2, m3, m4⟩ := may_parts hm
  have hl := hardP_len p
  have hpos := placeH_lt (p := p) (k := 0) (by omega)
  simp only [hardOk, progOk, Bool.and_eq_true, decide_eq_true_eq, List.all_eq_true]
  refine ⟨⟨⟨m1, by omega⟩, by omega⟩, fun x hx => ?_⟩
  obtain ⟨q, hq, rfl⟩ := List.getElem_of_mem hx
  have hq' : q < (p.code.flatMap (blockH p)).length := by simpa [hardP, rawH] using hq
  obtain ⟨k, i, j, h1, h2, h3⟩ := flat_at (blockH p) p.code q hq'
  have hi := m4 i (List.mem_of_getElem? h1)
  have hi10 := insOk_mono (S := 10) (by omega) hi
  obtain ⟨g1, g2, g10, g3, g5, g8, g9, g11, go, g7, gop⟩ := ins_regs hi
  suffices h : ∀ y, (hardP p).code[q]? = some y → insOk (hardP p) 10 y = true from h _ (List.getElem?_eq_getElem hq)
  intro y hy
  by_cases e3 : i.op = 3 ∨ i.op = 4
  · obtain ⟨a1, a2, a3, a4⟩ := hard_three h1 e3
    rw [blockH_len, if_pos e3] at h2
    have hb := g3 e3
    have hc := (region_there hi (by simp only [isPut, isTake, Bool.or_eq_true, decide_eq_true_eq]; omega))
    have hw := words_le (regOf p i) (regsOk_log m1 (regOf p i) (by unfold regOf; simp [hc.2])).2
    have hw0 := words_pos (regOf p i)
    simp only [okIn_iff] at hb
    have hj : j = 0 ∨ j = 1 ∨ j = 2 := by omega
    have hcr : i.c < p.regs.length := by omega
    unfold placeH at a1 a2 a3
    rcases hj with rfl | rfl | rfl
    · rw [h3, Nat.add_zero, a1] at hy
      obtain rfl := Option.some.inj hy
      simp [insOk, okIn]; omega
    · rw [h3, a2] at hy
      obtain rfl := Option.some.inj hy
      simp [insOk, okIn]; omega
    · rw [h3, a3] at hy
      obtain rfl := Option.some.inj hy
      have hrl : (hardP p).regs.length = p.regs.length := rfl
      rcases e3 with e | e <;> simp [insOk, okIn, e] <;> omega
  · obtain ⟨a1, a2⟩ := hard_one h1 e3
    rw [blockH_len, if_neg e3] at h2
    obtain rfl : j = 0 := by omega
    unfold placeH at a1
    rw [h3, Nat.add_zero, a1] at hy
    obtain rfl := Option.some.inj hy
    by_cases e7 : i.op = 7 ∨ i.op = 8
    · have ht := placeH_lt (g7 e7).2
      unfold placeH at ht
      unfold reloc
      rw [if_pos e7]
      simp only [insOk] at hi10 ⊢
      rcases e7 with e | e
      · simp [e, okIn] at hi10 ⊢; refine ⟨?_, ?_⟩ <;> omega
      · simp [e, okIn] at hi10 ⊢; omega
    · rw [reloc_other e7]
      exact insOk_regs (p := p) (q := hardP p) rfl hi10 e7

/-! labels -/
theorem LabLe.trans {L M N : Lab} (h : LabLe L M) (k : LabLe M N) : LabLe L N := fun j hj e => h j hj (k j hj e)
end Go.Proofs.Ytccgnegdinakeaa
/- How programs and memories lie in memory. No program in sight. -/
namespace Go.Proofs.Ytccgnegdinakeaa
open Go.RowKit


/-- n rows of c cells lie at block b from o on, if there is one at all -/
structure Rows (w : World) (oa : Option Addr) (b o n c : Nat) (f : Nat → Nat → Value) : Prop where
  at_ : 0 < n → oa = some ⟨b, o, none⟩
  cell : ∀ i j, i < n → j < c → w.cell? ⟨b, o + i * c + j, none⟩ = some (f i j)
theorem Rows.ext {w w' : World} {oa : Option Addr} {b o n c : Nat} {f : Nat → Nat → Value} (h : Rows w oa b o n c f) (hx : Ext w w') : Rows w' oa b o n c f :=
  ⟨h.at_, fun i j hi hj => hx.kept (h.cell i j hi hj)⟩

def regCell (r : LReg) : Nat → Value
  | 0 => .int .i64 r.log
  | _ => .bool r.secret
def insCell (i : LIns) : Nat → Value
  | 0 => .int .i64 i.op
  | 1 => .int .i64 i.a
  | 2 => .int .i64 i.b
  | 3 => .int .i64 i.c
  | _ => .int .i64 i.n
def LIns.fits (i : LIns) : Prop := R64 i.op ∧ R64 i.a ∧ R64 i.b ∧ R64 i.c ∧ R64 i.n

/-- a slice that reads as these regions -/
def RegsAt (w : World) (v : Value) (l : List LReg) : Prop :=
  (∀ r ∈ l, R64 r.log) ∧ ∃ oa cap b o, v = .slice oa l.length cap ∧ l.length ≤ cap ∧ cap ≤ maxLen ∧ Rows w oa b o l.length 2 fun i => regCell (l.getD i default)
def CodeAt (w : World) (v : Value) (l : List LIns) : Prop :=
  (∀ i ∈ l, i.fits) ∧ ∃ oa cap b o, v = .slice oa l.length cap ∧ l.length ≤ cap ∧ cap ≤ maxLen ∧ Rows w oa b o l.length 5 fun i => insCell (l.getD i default)
def ProgAt (w : World) (v : Value) (p : LProg) : Prop := ∃ v1 v2, v = .agg #[v1, v2] ∧ RegsAt w v1 p.regs ∧ CodeAt w v2 p.code
/-- a slice that reads as these numbers -/
def IntsAt (w : World) (v : Value) (l : List Int) : Prop :=
  (∀ x ∈ l, R64 x) ∧ ∃ oa cap b o, v = .slice oa l.length cap ∧ l.length ≤ cap ∧ cap ≤ maxLen ∧ Rows w oa b o l.length 1 fun i _ => .int .i64 (l.getD i default)
def MemAt (w : World) (v : Value) (m : List (List Int)) : Prop :=
  ∃ oa cap b o, v = .slice oa m.length cap ∧ m.length ≤ cap ∧ cap ≤ maxLen ∧ ∃ vs : Nat → Value, Rows w oa b o m.length 1 (fun i _ => vs i) ∧ ∀ i, i < m.length → IntsAt w (vs i) (m.getD i default)
theorem RegsAt.ext {w w' : World} {v : Value} {l : List LReg} (h : RegsAt w v l) (hx : Ext w w') : RegsAt w' v l := by
  obtain ⟨h0, oa, cap, b, o, h1, h2, h3, h4⟩ := h
  exact ⟨h0, oa, cap, b, o, h1, h2, h3, h4.ext hx⟩
theorem CodeAt.ext {w w' : World} {v : Value} {l : List LIns} (h : CodeAt w v l) (hx : Ext w w') : CodeAt w' v l := by
  obtain ⟨h0, oa, cap, b, o, h1, h2, h3, h4⟩ := h
  exact ⟨h0, oa, cap, b, o, h1, h2, h3, h4.ext hx⟩
theorem ProgAt.ext {w w' : World} {v : Value} {p : LProg} (h : ProgAt w v p) (hx : Ext w w') : ProgAt w' v p := by
  obtain ⟨v1, v2, h1, h2, h3⟩ := h
  exact ⟨v1, v2, h1, h2.ext hx, h3.ext hx⟩
theorem IntsAt.ext {w w' : World} {v : Value} {l : List Int} (h : IntsAt w v l) (hx : Ext w w') : IntsAt w' v l := by
  obtain ⟨h0, oa, cap, b, o, h1, h2, h3, h4⟩ := h
  exact ⟨h0, oa, cap, b, o, h1, h2, h3, h4.ext hx⟩
theorem MemAt.ext {w w' : World} {v : Value} {m : List (List Int)} (h : MemAt w v m) (hx : Ext w w') : MemAt w' v m := by
  obtain ⟨oa, cap, b, o, h1, h2, h3, vs, h4, h5⟩ := h
  exact ⟨oa, cap, b, o, h1, h2, h3, vs, h4.ext hx, fun i hi => (h5 i hi).ext hx⟩

theorem Rows.reg {w : World} {oa : Option Addr} {b o : Nat} {l : List LReg} (h : Rows w oa b o l.length 2 fun i => regCell (l.getD i default)) (k : Nat) (hk : k < l.length) :
    w.cell? ⟨b, o + k * 2, none⟩ = some (.int .i64 (l.getD k default).log) ∧ w.cell? ⟨b, o + k * 2 + 1, none⟩ = some (.bool (l.getD k default).secret) :=
  ⟨h.cell k 0 hk (by omega), h.cell k 1 hk (by omega)⟩
theorem Rows.ins {w : World} {oa : Option Addr} {b o : Nat} {l : List LIns} (h : Rows w oa b o l.length 5 fun i => insCell (l.getD i default)) (k : Nat) (hk : k < l.length) :
    w.cell? ⟨b, o + k * 5, none⟩ = some (.int .i64 (l.getD k default).op) ∧ w.cell? ⟨b, o + k * 5 + 1, none⟩ = some (.int .i64 (l.getD k default).a) ∧ w.cell? ⟨b, o + k * 5 + 2, none⟩ = some (.int .i64 (l.getD k default).b) ∧
      w.cell? ⟨b, o + k * 5 + 3, none⟩ = some (.int .i64 (l.getD k default).c) ∧ w.cell? ⟨b, o + k * 5 + 4, none⟩ = some (.int .i64 (l.getD k default).n) :=
  ⟨h.cell k 0 hk (by omega), h.cell k 1 hk (by omega), h.cell k 2 hk (by omega), h.cell k 3 hk (by omega), h.cell k 4 hk (by omega)⟩
theorem Rows.one {w : World} {oa : Option Addr} {b o n : Nat} {f : Nat → Value} (h : Rows w oa b o n 1 fun i _ => f i) (k : Nat) (hk : k < n) :
    w.cell? ⟨b, o + k, none⟩ = some (f k) := by
  have := h.cell k 0 hk (by omega)
  simpa using this
theorem getD_mem {α : Type} [Inhabited α] {l : List α} {k : Nat} (hk : k < l.length) : l.getD k default ∈ l := by
  simp [hk]

theorem len_bd {n cap : Nat} (h : n ≤ cap) (hn : cap ≤ maxLen) : (n : Int) ≤ 9223372036854775807 := by
  unfold maxLen at hn
  omega

end Go.Proofs.Ytccgnegdinakeaa
/- Small laws of memory: what is kept; blocks laid just now. No program in sight. -/
namespace Go.Proofs.Ytccgnegdinakeaa
open Go.ChangeShapes Go.WideShapes Go.ChangeAt Go.RowKit

theorem kept2 {w w' : World} {p : Addr} {v : Value} (hx : Ext w w') (h : w.cell? p = some v ∧ w.frozen? p = false) : w'.cell? p = some v ∧ w'.frozen? p = false :=
  ⟨hx.kept h.1, (hx.frozen (block_lt h.1)).trans h.2⟩
theorem set_same {w : World} {p : Addr} {v u : Value} (h : w.cell? p = some v ∧ w.frozen? p = false) : (w.setCell p u).cell? p = some u ∧ (w.setCell p u).frozen? p = false :=
  ⟨World.cell?_setCell_same _ _ _ h.1, (World.frozen?_setCell w p p u).trans h.2⟩
theorem one_new (w : World) (T : TypeId) (a0 a1 : Value) : ((w.alloc (.cells #[a0, a1] T)).cell? ⟨w.heap.size, 0, none⟩ = some a0 ∧ (w.alloc (.cells #[a0, a1] T)).frozen? ⟨w.heap.size, 0, none⟩ = false) ∧
    ((w.alloc (.cells #[a0, a1] T)).cell? ⟨w.heap.size, 1, none⟩ = some a1 ∧ (w.alloc (.cells #[a0, a1] T)).frozen? ⟨w.heap.size, 1, none⟩ = false) := by
  have h0 := Blk.new w T #[a0, a1]
  exact ⟨⟨by rw [h0.cell]; rfl, h0.frozen 0⟩, ⟨by rw [h0.cell]; rfl, h0.frozen 1⟩⟩
theorem new2 (w : World) (T : TypeId) (v0 v1 : Value) : ∃ W g, w.heap.size = g ∧ w.alloc (.cells #[v0, v1] T) = W ∧ Ext w W ∧ (W.cell? ⟨g, 0, none⟩ = some v0 ∧ W.frozen? ⟨g, 0, none⟩ = false) ∧ (W.cell? ⟨g, 1, none⟩ = some v1 ∧ W.frozen? ⟨g, 1, none⟩ = false) :=
  ⟨_, _, rfl, rfl, (Ext.refl _).alloc _, (one_new w T v0 v1).1, (one_new w T v0 v1).2⟩
theorem some_alloc {W : World} {p : Addr} {o : Obj} (h : (W.cell? p).isSome = true) : ((W.alloc o).cell? p).isSome = true := by
  obtain ⟨v, hv⟩ := Option.isSome_iff_exists.1 h
  rw [((Ext.refl W).alloc o).kept hv]; rfl
theorem blocks2 (w : World) (A B : Array Value) (S T : TypeId) : ∃ W g, w.heap.size = g ∧ (w.alloc (.cells A S)).alloc (.cells B T) = W ∧ Ext w W ∧ Blk W g S A ∧ Blk W (g + 1) T B := by
  have h0 := (Blk.new w S A).alloc (.cells B T)
  have h1 := Blk.new (w.alloc (.cells A S)) T B
  simp only [World.size_alloc] at h1
  exact ⟨_, _, rfl, rfl, ((Ext.refl w).alloc _).alloc _, h0, h1⟩
theorem blocks3 (w : World) (A B C : Array Value) (S T U : TypeId) : ∃ W g, w.heap.size = g ∧ ((w.alloc (.cells A S)).alloc (.cells B T)).alloc (.cells C U) = W ∧ Ext w W ∧ Blk W g S A ∧ Blk W (g + 1) T B ∧ Blk W (g + 1 + 1) U C := by
  have h0 := ((Blk.new w S A).alloc (.cells B T)).alloc (.cells C U)
  have h1 := (Blk.new (w.alloc (.cells A S)) T B).alloc (.cells C U)
  have h2 := Blk.new ((w.alloc (.cells A S)).alloc (.cells B T)) U C
  simp only [World.size_alloc] at h1 h2
  exact ⟨_, _, rfl, rfl, (((Ext.refl w).alloc _).alloc _).alloc _, h0, h1, h2⟩
end Go.Proofs.Ytccgnegdinakeaa
/- One old cell turned, all else as it was: no program in sight. -/
namespace Go.Proofs.Ytccgnegdinakeaa
open Go.RowKit

theorem heap_setCell_same (w : World) (p : Addr) (v v' : Value) (b : Nat) : ((w.setCell p v).setCell p v').heap[b]? = (w.setCell p v').heap[b]? := by
  simp only [World.setCell, Array.getElem?_modify]
  by_cases h : p.block = b
  · simp only [h, if_true]
    cases w.heap[b]? with
    | none => rfl
    | some o => cases o <;> simp <;> split <;> simp
  · simp only [h, if_false]
theorem setCell_size (w : World) (p : Addr) (v : Value) : (w.setCell p v).heap.size = w.heap.size := by simp [World.setCell]
theorem setCell_congr {w w' : World} (p : Addr) (v : Value) (b : Nat) (h : w'.heap[b]? = w.heap[b]?) : (w'.setCell p v).heap[b]? = (w.setCell p v).heap[b]? := by
  simp only [World.setCell, Array.getElem?_modify, h]
/-- one old cell turned twice -/
theorem upd_trans {w w1 w2 : World} {p : Addr} {v v' : Value} (h : Ext (w.setCell p v) w1) (k : Ext (w1.setCell p v') w2) : Ext (w.setCell p v') w2 := by
  have hs : w.heap.size ≤ w1.heap.size := by have := h.size; rwa [setCell_size] at this
  refine ⟨k.os.trans (h.os), k.tape.trans h.tape, k.output.trans h.output, ?_, fun b hb => ?_⟩
  · have := k.size
    rw [setCell_size] at this ⊢
    omega
  · rw [setCell_size] at hb
    rw [k.block b (by rw [setCell_size]; omega), setCell_congr p v' b (h.block b (by rw [setCell_size]; exact hb)), heap_setCell_same]
/-- what is there already is put again -/
theorem upd_refl {w w' : World} {p : Addr} {v : Value} (hc : w.cell? p = some v) (h : Ext w w') : Ext (w.setCell p v) w' := by
  refine ⟨h.os, h.tape, h.output, by rw [setCell_size]; exact h.size, fun b hb => ?_⟩
  rw [setCell_size] at hb
  rw [h.block b hb]
  simp only [World.setCell, Array.getElem?_modify]
  by_cases e : p.block = b
  · subst e
    simp only [if_true]
    unfold World.cell? at hc
    cases hx : w.heap[p.block]? with
    | none => rfl
    | some o =>
      rw [hx] at hc
      cases o with
      | cells c t fz =>
        simp only at hc
        by_cases hsp : p.spot.isSome = true
        · simp [hsp] at hc
        · simp only [hsp, Bool.false_eq_true, if_false] at hc
          have : c.setIfInBounds p.off v = c := by
            apply Array.ext_getElem?
            intro j
            by_cases hj : p.off = j
            · subst hj
              rw [Array.getElem?_setIfInBounds_self_of_lt (Array.getElem?_eq_some_iff.1 hc).1, hc]
            · rw [Array.getElem?_setIfInBounds_ne hj]
          simp [hsp, this]
      | _ => rfl
  · simp [e]
/-- new blocks ahead of it -/
theorem upd_after {w w1 w2 : World} {p : Addr} {v : Value} (h : Ext w w1) (k : Ext (w1.setCell p v) w2) : Ext (w.setCell p v) w2 := by
  refine ⟨k.os.trans h.os, k.tape.trans h.tape, k.output.trans h.output, ?_, fun b hb => ?_⟩
  · have := k.size
    have := h.size
    rw [setCell_size] at *
    omega
  · rw [setCell_size] at hb
    rw [k.block b (by rw [setCell_size]; exact h.lt hb), setCell_congr p v b (h.block b hb)]
/-- the cell that was turned -/
theorem upd_same {w w' : World} {p : Addr} {v u : Value} (h : Ext (w.setCell p v) w') (hc : w.cell? p = some u ∧ w.frozen? p = false) : w'.cell? p = some v ∧ w'.frozen? p = false := by
  have := set_same (u := v) hc
  exact ⟨h.kept this.1, (h.frozen (by rw [setCell_size]; exact block_lt hc.1)).trans this.2⟩
theorem upd_cell {w w' : World} {p q : Addr} {v u : Value} (h : Ext (w.setCell p v) w') (hne : p ≠ q) (hc : w.cell? q = some u) : w'.cell? q = some u :=
  h.kept ((World.cell?_setCell_other w p q v hne).trans hc)
/-- the cell being new, nothing old has turned -/
theorem upd_new {w0 w w' : World} {p : Addr} {v : Value} (h : Ext (w.setCell p v) w') (h0 : Ext w0 w) (hp : w0.heap.size ≤ p.block) : Ext w0 w' := (h0.setCell hp v).trans h
end Go.Proofs.Ytccgnegdinakeaa
/- One run that does what another one does, a few steps for each: the frame, and the hardened program. No program in sight. -/
namespace Go.Proofs.Ytccgnegdinakeaa
open Go.RowKit
set_option linter.unusedSimpArgs false
set_option linter.unusedVariables false

/-! a run of a program without fault: its state is known at each step -/
/-! the frame -/
/-! registers that are the same -/
def Eq8 (r t : List Int) : Prop := r.length = 10 ∧ t.length = 10 ∧ ∀ j, j < 8 → r.getD j 0 = t.getD j 0
theorem Eq8.at_ {r t : List Int} (h : Eq8 r t) {a : Int} (ha : okIn 8 a = true) : rg r a = rg t a := by
  rw [okIn_iff] at ha
  exact h.2.2 a.toNat (by omega)
theorem Eq8.set {r t : List Int} (h : Eq8 r t) (a v : Int) : Eq8 (rset r a v) (rset t a v) := by
  refine ⟨by rw [rset_len]; exact h.1, by rw [rset_len]; exact h.2.1, fun j hj => ?_⟩
  unfold rset
  rw [set_get, set_get, h.1, h.2.1]
  split
  · rfl
  · exact h.2.2 j hj
end Go.Proofs.Ytccgnegdinakeaa
/- Fenced programs in plain Lean: they are hard, do the same, and tell nothing, not even ahead of time. No program in sight. -/
namespace Go.Proofs.Ytccgnegdinakeaa
open Go.RowKit
set_option linter.unusedSimpArgs false
set_option linter.unusedVariables false

def fenI : LIns := ⟨12, 0, 0, 0, 0⟩
def blockF (i : LIns) : List LIns := if i.op = 8 then [i, fenI] else [i]
def placeF (p : LProg) (k : Nat) : Nat := plc blockF p.code k
def rawF (p : LProg) : Nat := (p.code.flatMap blockF).length
def trampF (p : LProg) (i : LIns) : List LIns := if i.op = 8 then [fenI, ⟨7, 0, 0, 0, (placeF p i.n.toNat : Nat)⟩] else []
def otherF (p : LProg) (k : Nat) : Nat := rawF p + plc (trampF p) p.code k
/-! FENCED, IT DOES THE SAME -/
/-! NOT EVEN AHEAD OF TIME -/
/-- where a run of the fenced program comes to, and the instruction of the program whose state is known there -/
inductive PosF (p : LProg) : Nat → Nat → Prop
  | at_ (k : Nat) : PosF p (placeF p k) k
  | fen (k : Nat) (i : LIns) (hi : p.code[k]? = some i) (h8 : i.op = 8) : PosF p (placeF p k + 1) (k + 1)
  | other (k : Nat) (i : LIns) (hi : p.code[k]? = some i) (h8 : i.op = 8) : PosF p (otherF p k) i.n.toNat
  | jump (k : Nat) (i : LIns) (hi : p.code[k]? = some i) (h8 : i.op = 8) : PosF p (otherF p k + 1) i.n.toNat
def INF (p : LProg) (T : Tab) (a b : Plc) : Prop := a.at_ = b.at_ ∧ ∃ k s, PosF p a.at_ k ∧ tg T k = some s ∧ Pair p s a b
theorem INF.to {p : LProg} {T : Tab} (h : Sound p T) {k : Nat} {s s' : KSt} {i : LIns} (hk : tg T k = some s) (hi : p.code[k]? = some i) {a b : Plc} {n : Nat} (hx : (n, s') ∈ leadsK p k s i) (hn : n < p.code.length) (hP : Pair p s' a b) (hab : a.at_ = b.at_) (hpos : PosF p a.at_ n) : INF p T a b := by
  obtain ⟨t, ht, hl⟩ := h.led hk hi hx hn
  exact ⟨hab, n, t, hpos, ht, hP.mono (leadsK_ok p k (h.post.tok.ok k s hk) i _ hx) (h.post.tok.ok _ _ ht) hl⟩
theorem INF.keep {p : LProg} {T : Tab} {k : Nat} {s : KSt} (hk : tg T k = some s) {a b : Plc} (hP : Pair p s a b) {m n : Nat} (hmn : m = n) (hpos : PosF p m k) : INF p T { a with at_ := m } { b with at_ := n } := ⟨hmn, k, s, hpos, hk, hP.goTo _ _⟩
end Go.Proofs.Ytccgnegdinakeaa
