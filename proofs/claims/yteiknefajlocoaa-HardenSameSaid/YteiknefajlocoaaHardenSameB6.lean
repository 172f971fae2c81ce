/- Laid together from: Base, Ref1P, KnownL, CheckL. -/
import Derived.WalkKit
import Derived.ProofKit
import Derived.OpenShut
import Derived.Below
import Derived.ChangeSame
import Derived.Deep.Draws
import Derived.Lib.Hide
import Derived.Deep.MidRow
import Derived.Laws.OwnMore
import Derived.Laws.ResultCell
import Derived.Test.YteiknefajlocoaaHardenSameB3
import Derived.Test.YteiknefajlocoaaHardenSameB2

/- Words of our own for memory: 'Ext w w'': of what was there nothing has turned. No program in sight. -/
namespace Go.Proofs.Yteiknefajlocoaa
open Go.RowKit Go.WideShapes Go.ChangeShapes

theorem ret_i {k : IntKind} {a b : Int} (h : a = b) : Ending.returned (.int k a) = .returned (.int k b) := by rw [h]
theorem ret_b {a b : Bool} (h : a = b) : Ending.returned (.bool a) = .returned (.bool b) := by rw [h]
theorem ret_v {a b : Value} (h : a = b) : Ending.returned a = .returned b := by rw [h]

def Ext (w w' : World) : Prop := Below w.heap.size w w'
section
variable {a w w' w'' : World}
theorem Ext.refl (w : World) : Ext w w := Below.refl _ w
theorem Ext.size (h : Ext w w') : w.heap.size ≤ w'.heap.size := Below.size h
theorem Ext.trans (h : Ext w w') (k : Ext w' w'') : Ext w w'' := Below.trans h (Below.mono k h.size)
theorem Ext.drew (h : Ext a w) : Ext a w.drew := Below.drew h
theorem Ext.drewN (h : Ext a w) (n : Nat) : Ext a (w.drewN n) := ⟨h.os, h.tape, h.output, h.size, h.block⟩
theorem Ext.alloc (h : Ext a w) (o : Obj) : Ext a (w.alloc o) := Below.alloc h h.size o
theorem Ext.setCell (h : Ext a w) {p : Addr} (hp : a.heap.size ≤ p.block) (u : Value) : Ext a (w.setCell p u) := Below.setCell h hp u
theorem Ext.cell (h : Ext w w') {p : Addr} (hp : p.block < w.heap.size) : w'.cell? p = w.cell? p := Below.cell h hp
theorem Ext.frozen (h : Ext w w') {p : Addr} (hp : p.block < w.heap.size) : w'.frozen? p = w.frozen? p := Below.frozen h hp
theorem block_lt {p : Addr} {v : Value} (h : w.cell? p = some v) : p.block < w.heap.size := block_lt_of_cell h
theorem Ext.kept (h : Ext w w') {p : Addr} {v : Value} (hc : w.cell? p = some v) : w'.cell? p = some v := by rw [h.cell (block_lt hc)]; exact hc
theorem Ext.lt (h : Ext w w') {k : Nat} (hk : k < w.heap.size) : k < w'.heap.size := Nat.lt_of_lt_of_le hk h.size
theorem Ext.grown (h : Ext a w) {row : Option Nat} (hg : w.grownBy w' row) (hr : ∀ k, row = some k → a.heap.size ≤ k) : Ext a w' := Below.grown h hg h.size hr
end

/-- Block g holds just the cells cs. -/
def Blk (w : World) (g : Nat) (t : TypeId) (cs : Array Value) : Prop := w.heap[g]? = some (.cells cs t (0, 0))
def setAll (cs : Array Value) : Nat → List Value → Array Value
  | _, [] => cs
  | o, v :: r => setAll (cs.setIfInBounds o v) (o + 1) r
theorem setAll_get (vs : List Value) : ∀ (cs : Array Value) (o j : Nat), (setAll cs o vs)[j]? = if o ≤ j ∧ j < o + vs.length ∧ j < cs.size then vs[j - o]? else cs[j]? := by
  induction vs with
  | nil => intro cs o j; simp [setAll]; intro h1 h2; omega
  | cons v r ih =>
    intro cs o j
    rw [setAll, ih]
    simp only [Array.size_setIfInBounds, List.length_cons]
    by_cases h1 : o + 1 ≤ j ∧ j < o + 1 + r.length ∧ j < cs.size
    · rw [if_pos h1, if_pos ⟨by omega, by omega, h1.2.2⟩, show j - o = (j - (o + 1)) + 1 by omega, List.getElem?_cons_succ]
    · rw [if_neg h1]
      by_cases h2 : j = o
      · subst h2
        by_cases h3 : j < cs.size
        · rw [if_pos ⟨Nat.le_refl _, by omega, h3⟩]; simp [h3]
        · rw [if_neg (by omega)]; simp [h3]
      · rw [if_neg (by omega), Array.getElem?_setIfInBounds_ne (by omega)]
theorem setAll_all (cs : Array Value) (vs : List Value) (h : vs.length = cs.size) : setAll cs 0 vs = vs.toArray := by
  apply Array.ext_getElem?
  intro j
  rw [setAll_get]
  by_cases hj : j < cs.size
  · rw [if_pos ⟨by omega, by omega, hj⟩]; simp
  · rw [if_neg (by omega), Array.getElem?_eq_none (by omega), Array.getElem?_eq_none (by simp; omega)]
section
variable {w w' : World} {g : Nat} {t : TypeId} {cs : Array Value}
theorem Blk.lt (h : Blk w g t cs) : g < w.heap.size := by
  rcases Nat.lt_or_ge g w.heap.size with hlt | hge
  · exact hlt
  · unfold Blk at h; rw [Array.getElem?_eq_none hge] at h; cases h
theorem Blk.cell (h : Blk w g t cs) (i : Nat) : w.cell? ⟨g, i, none⟩ = cs[i]? := cell_of_row w g i cs t (0, 0) h
theorem Blk.frozen (h : Blk w g t cs) (i : Nat) : w.frozen? ⟨g, i, none⟩ = false := by
  unfold Blk at h
  simp [World.frozen?, h]
theorem Blk.new (w : World) (t : TypeId) (cs : Array Value) : Blk (w.alloc (.cells cs t)) w.heap.size t cs := heap_alloc_new w _
theorem Blk.drew (h : Blk w g t cs) : Blk w.drew g t cs := h
theorem Blk.drewN (h : Blk w g t cs) (n : Nat) : Blk (w.drewN n) g t cs := h
theorem Blk.alloc (h : Blk w g t cs) (o : Obj) : Blk (w.alloc o) g t cs := (Below.heap_alloc w o g h.lt).trans h
theorem Blk.set_ (h : Blk w g t cs) (i : Nat) (u : Value) : Blk (w.setCell ⟨g, i, none⟩ u) g t (cs.setIfInBounds i u) := by
  unfold Blk at h ⊢
  simp [World.setCell, Array.getElem?_modify, h]
theorem Blk.far (h : Blk w g t cs) {p : Addr} (hp : g ≠ p.block) (u : Value) : Blk (w.setCell p u) g t cs := (Below.heap_setCell w p u g hp).trans h
theorem Blk.ext (h : Blk w g t cs) (hb : Ext w w') : Blk w' g t cs := (Below.block hb g h.lt).trans h
theorem Blk.below {B : Nat} (h : Blk w g t cs) (hb : Below B w w') (hg : g < B) : Blk w' g t cs := (hb.block g hg).trans h
theorem Blk.setCells (vs : List Value) : ∀ {w : World} {cs : Array Value} (_ : Blk w g t cs) (o : Nat), Blk (w.setCells g o vs) g t (setAll cs o vs) := by
  induction vs with
  | nil => intro w cs h o; exact h
  | cons v r ih => intro w cs h o; exact ih (h.set_ o v) (o + 1)
theorem Blk.setCells_all (h : Blk w g t cs) (vs : List Value) (hl : vs.length = cs.size) : Blk (w.setCells g 0 vs) g t vs.toArray := by
  have := Blk.setCells (t := t) vs h 0
  rwa [setAll_all cs vs hl] at this
theorem Blk.there (h : Blk w g t cs) (o n : Nat) (hn : o + n ≤ cs.size) : w.there g o n := fun j hj => by
  refine ⟨?_, h.frozen _⟩
  rw [h.cell]
  simp; omega
theorem Blk.range (h : Blk w g t cs) (o : Nat) (l : List Value) (hl : ∀ j v, l[j]? = some v → cs[o + j]? = some v) : w.rangeAt g o l := fun j v hv => by
  rw [h.cell]; exact hl j v hv
theorem Ext.setCells (vs : List Value) : ∀ {a w : World} (_ : Ext a w) {b : Nat} (_ : a.heap.size ≤ b) (o : Nat), Ext a (w.setCells b o vs) := by
  induction vs with
  | nil => intro a w h b hb o; exact h
  | cons v r ih => intro a w h b hb o; exact ih (h.setCell (p := ⟨b, o, none⟩) hb v) hb (o + 1)
theorem below_setCells (vs : List Value) : ∀ {B : Nat} {a w : World} (_ : Below B a w) {b : Nat} (_ : B ≤ b) (o : Nat), Below B a (w.setCells b o vs) := by
  induction vs with
  | nil => intro B a w h b hb o; exact h
  | cons v r ih => intro B a w h b hb o; exact ih (h.setCell (p := ⟨b, o, none⟩) hb v) hb (o + 1)
end

/-! Laws for loads and stores of whole structs and arrays, at a block that is known whole. -/
section
variable {P : Program} {ops : Array Oper} {rest : List Oper} {a : Act} {w : World} {Q : Exit → Act → World → Prop} {g : Nat} {t : TypeId} {cs : Array Value} {dst : Option Tmp} {T : TypeId} {pos : String} {after : Array Edge}
/-- a load of n cells out of block g from offset o on -/
theorem load_blk (h : Blk w g t cs) (o : Nat) (l : List Value) {ty : TypeId} {x : Operand} {d : TypeDesc} (hx : a.eval x = .pointer (some ⟨g, o, none⟩))
    (hl : ∀ j v, l[j]? = some v → cs[o + j]? = some v) (hu : P.underlying ty = some d) (hd : d.isRow = true) (hi : (P.info? ty).map (·.size) = some l.length)
    (k : wpList P ops Q rest (a.put dst (.agg l.toArray)) w) : wpList P ops Q (⟨dst, .load ty x, T, pos, after, none⟩ :: rest) a w :=
  wpList_load_mid rfl ty x rfl g o hx l d (h.range o l hl) hu hd hi k
/-- a load of a whole block -/
theorem load_all (h : Blk w g t cs) {ty : TypeId} {x : Operand} {d : TypeDesc} (hx : a.eval x = .pointer (some ⟨g, 0, none⟩))
    (hu : P.underlying ty = some d) (hd : d.isRow = true) (hi : (P.info? ty).map (·.size) = some cs.size)
    (k : wpList P ops Q rest (a.put dst (.agg cs)) w) : wpList P ops Q (⟨dst, .load ty x, T, pos, after, none⟩ :: rest) a w :=
  load_blk h 0 cs.toList hx (fun j v hv => by simpa using hv) hu hd (by simpa using hi) (by simpa using k)
/-- a store of a whole block -/
theorem store_all (h : Blk w g t cs) (cs' : Array Value) {ty : TypeId} {x y : Operand} (hx : a.eval x = .pointer (some ⟨g, 0, none⟩)) (hy : a.eval y = .agg cs')
    (hs : cs'.size = cs.size) (hi : (P.info? ty).map (·.size) = some cs'.size) (h1 : cs'.all (·.oneCell') = true)
    (k : wpList P ops Q rest (a.put dst undef) (w.setCells g 0 cs'.toList)) : wpList P ops Q (⟨dst, .store ty x y, T, pos, after, none⟩ :: rest) a w :=
  wpList_store_mid rfl ty x y rfl g 0 cs' hx hy (h.there 0 _ (by omega)) hi h1 k
theorem kept_set {p q : Addr} {v u : Value} (hne : q ≠ p) (h : w.cell? p = some v ∧ w.frozen? p = false) : (w.setCell q u).cell? p = some v ∧ (w.setCell q u).frozen? p = false :=
  ⟨(World.cell?_setCell_other w q p u hne).trans h.1, (World.frozen?_setCell w q p u).trans h.2⟩
theorem some_set {p q : Addr} {u : Value} (h : (w.cell? p).isSome = true) : ((w.setCell q u).cell? p).isSome = true := by
  obtain ⟨v, hv⟩ := Option.isSome_iff_exists.1 h
  by_cases e : q = p
  · subst e; rw [World.cell?_setCell_same _ _ _ hv]; rfl
  · rw [World.cell?_setCell_other _ _ _ _ e, hv]; rfl
theorem some_of {p : Addr} {v : Value} (h : w.cell? p = some v ∧ w.frozen? p = false) : (w.cell? p).isSome = true := by rw [h.1]; rfl
/-- a result of two cells, both stored just now -/
theorem results_two {fn : Func} {p : Tmp} {ty : TypeId} {d : TypeDesc} {v0 v1 : Value} (h0 : (w.cell? ⟨g, 0, none⟩).isSome = true) (h1 : (w.cell? ⟨g, 1, none⟩).isSome = true)
    (hr : fn.results = #[.cell p ty]) (tmps : Array Value) (hp : tmps.getD p undef = .pointer (some ⟨g, 0, none⟩)) (hu : P.underlying ty = some d) (hd : d.isRow = true) (hi : (P.info? ty).map (·.size) = some 2) :
    (results fn tmps).run P ((w.setCell ⟨g, 0, none⟩ v0).setCell ⟨g, 1, none⟩ v1) = .ok (.agg #[v0, v1]) ((w.setCell ⟨g, 0, none⟩ v0).setCell ⟨g, 1, none⟩ v1) := by
  have hp' : tmps[p]?.getD undef = .pointer (some ⟨g, 0, none⟩) := by simpa using hp
  obtain ⟨a0, h0⟩ := Option.isSome_iff_exists.1 h0
  obtain ⟨a1, h1⟩ := Option.isSome_iff_exists.1 h1
  have c0 : ((w.setCell ⟨g, 0, none⟩ v0).setCell ⟨g, 1, none⟩ v1).cell? ⟨g, 0, none⟩ = some v0 :=
    (World.cell?_setCell_other _ _ _ _ (by simp)).trans (World.cell?_setCell_same _ _ _ h0)
  have c1 : ((w.setCell ⟨g, 0, none⟩ v0).setCell ⟨g, 1, none⟩ v1).cell? ⟨g, 1, none⟩ = some v1 :=
    World.cell?_setCell_same _ _ _ ((World.cell?_setCell_other _ _ _ _ (by simp)).trans h1)
  have hc : ((w.setCell ⟨g, 0, none⟩ v0).setCell ⟨g, 1, none⟩ v1).rangeAt g 0 [v0, v1] := fun j v hv => by
    match j, hv with
    | 0, hv => simp at hv; subst hv; exact c0
    | 1, hv => simp at hv; subst hv; exact c1
  simp [results, hr, hp', asAddr, run_loadVar_mid _ g 0 ty [v0, v1] d hc hu hd hi]
theorem setCells_new (w : World) (cs : Array Value) (t : TypeId) (l : List Value) (h : l.length = cs.size) : (w.alloc (.cells cs t)).setCells w.heap.size 0 l = w.alloc (.cells l.toArray t) := by
  have key : ∀ (l : List Value) (cs : Array Value) (o : Nat), (w.alloc (.cells cs t)).setCells w.heap.size o l = w.alloc (.cells (setAll cs o l) t) := by
    intro l
    induction l with
    | nil => intro cs o; rfl
    | cons v r ih =>
      intro cs o
      rw [World.setCells, World.setCell_alloc_at _ _ _ _ _ rfl, ih]
      rfl
  rw [key, setAll_all cs l h]
/-- a store of a whole block that was laid just now -/
theorem store_new (cs' : Array Value) {ty : TypeId} {x y : Operand} (hx : a.eval x = .pointer (some ⟨w.heap.size, 0, none⟩)) (hy : a.eval y = .agg cs')
    (hs : cs'.size = cs.size) (hi : (P.info? ty).map (·.size) = some cs'.size) (h1 : cs'.all (·.oneCell') = true)
    (k : wpList P ops Q rest (a.put dst undef) (w.alloc (.cells cs' t))) : wpList P ops Q (⟨dst, .store ty x y, T, pos, after, none⟩ :: rest) a (w.alloc (.cells cs t)) := by
  refine store_all (Blk.new w t cs) cs' hx hy hs hi h1 ?_
  rw [setCells_new w cs t cs'.toList (by simpa using hs)]
  simpa using k
theorem Blk.stored (h : Blk w g t cs) (cs' : Array Value) (hs : cs'.size = cs.size) : Blk (w.setCells g 0 cs'.toList) g t cs' := by
  have := h.setCells_all cs'.toList (by simpa using hs)
  simpa using this
theorem results_blk {fn : Func} {p : Tmp} {ty : TypeId} {d : TypeDesc} (h : Blk w g t cs) (hr : fn.results = #[.cell p ty]) (tmps : Array Value) (hp : tmps.getD p undef = .pointer (some ⟨g, 0, none⟩))
    (hu : P.underlying ty = some d) (hd : (match d with | .struct _ | .array _ _ => true | _ => false) = true) (hi : (P.info? ty).map (·.size) = some cs.size) :
    (results fn tmps).run P w = .ok (.agg cs) w :=
  results_cell_row hr tmps w g t cs (0, 0) d hp h hu hd hi
end

section
variable {H : Type} {enc : TypeId × Value → H} {P : Program}
theorem post_of_ext {f : Func} {s : ChangeSpec} {apart fresh handsOn again : Bool} {W W' : World} {args : Array Value} {v : Value} {ds gs : List (DataW H)} {before pa pv : List MemPlace}
    (hW : DataW.Whole enc P f.params.toList s.vars apart W args.toList ds gs before)
    (hres : ∀ (b : Nat) (sp : Nat → Bool) (hd : Bool), DataW.TrodAll enc P W' b sp hd f.resultTypes.toList (v.resultList f.resultTypes.size) (s.fn H (ds ++ gs)).results [])
    (hargs : ∀ sp : Nat → Bool, (∀ p ∈ before, sp p.block = true) → DataW.TrodAll enc P W' 0 sp true f.params.toList args.toList (s.fn H (ds ++ gs)).args pa)
    (hvars : ∀ sp : Nat → Bool, (∀ p ∈ before, sp p.block = true) → DataW.TrodVars enc P W' sp s.vars (s.fn H (ds ++ gs)).vars pv)
    (hps : before = pa ++ pv) (hb : Ext W W')
    (hok : ∀ (j : Nat) (t : TypeId) (r : Value), f.resultTypes[j]? = some t → (v.resultList f.resultTypes.size)[j]? = some r → Value.okWide P W' .any 0 t r) :
    s.post enc P f apart fresh handsOn again W args v W' := by
  have hlt : ∀ p ∈ before, p.block < W.heap.size := fun p hp => hW.lt p hp
  have hold : ∀ p ∈ before, (fun b => decide (b < W.heap.size)) p.block = true := fun p hp => by simpa using hlt p hp
  refine ⟨ds, gs, before, [], pa, pv, hW, hres _ _ _, hargs _ hold, hvars _ hold, World.keptBut_mono (fun p hp => ⟨hp, ?_⟩) (hb.frame (· ∈ before)), fun _ => ?_⟩
  · rw [hps, List.mem_append] at hp
    exact Or.inr hp
  · obtain ⟨_, _, _, _, _, hz, hn⟩ := hW
    refine ⟨hok, _, _, ([] ++ pa) ++ pv, ⟨[] ++ pa, pv, trodAll_append (hargs _ (fun _ _ => rfl)) (hres _ _ _), hvars _ (fun _ _ => rfl), rfl, ?_, ?_⟩, ?_⟩
    · intro b off hp
      have hin : MemPlace.cell b off ∈ before := by rw [hps]; simpa using hp
      rw [Below.frozen hb (hlt _ hin)]
      exact hz b off hin
    · intro ha
      have := hn ha
      rw [hps] at this
      simpa using this
    · intro p hp _
      rw [hps]
      simpa using hp

/-- the arguments read behind the call as they did before -/
theorem all_stays (hl : laidOutB P = true) {W W' : World} {sp : Nat → Bool} (hb : Ext W W') : ∀ {ts : List TypeId} {vs : List Value} {ds : List (DataW H)} {ps : List MemPlace},
    ts.all (fun t => P.readableRec t && decide (t < P.types.size)) = true → DataW.TrodAll enc P W 0 (fun _ => true) true ts vs ds ps → (∀ x ∈ ps, x.block < W.heap.size) → (∀ x ∈ ps, sp x.block = true) → DataW.TrodAll enc P W' 0 sp true ts vs ds ps
  | [], [], [], _, _, h, _, _ => h
  | t :: ts, v :: vs, d :: ds, ps, hr, ⟨p, q, h1, h2, e⟩, hlt, hs => by
    simp only [List.all_cons, Bool.and_eq_true, decide_eq_true_eq] at hr
    exact ⟨p, q, WideElems.Trod_stays hl hr.1.1 hr.1.2 h1 (fun x hx => Below.same hb (hlt x (by rw [e]; exact List.mem_append_left _ hx))) (fun x hx => hs x (by rw [e]; exact List.mem_append_left _ hx)),
      all_stays hl hb hr.2 h2 (fun x hx => hlt x (by rw [e]; exact List.mem_append_right _ hx)) (fun x hx => hs x (by rw [e]; exact List.mem_append_right _ hx)), e⟩
  | [], _ :: _, _, _, _, h, _, _ => h.elim
  | [], [], _ :: _, _, _, h, _, _ => h.elim
  | _ :: _, [], _, _, _, h, _, _ => h.elim
  | _ :: _, _ :: _, [], _, _, h, _, _ => h.elim

/-- THE LAW's END: it has returned true, and of what was there nothing has turned. -/
theorem law_post {f : Func} {s : ChangeSpec} {apart fresh handsOn again : Bool} {W W' : World} {args : Array Value} {ds gs : List (DataW H)} {before : List MemPlace} {tb : TypeId}
    (hl : laidOutB P = true) (hr : f.params.toList.all (fun t => P.readableRec t && decide (t < P.types.size)) = true)
    (hW : DataW.Whole enc P f.params.toList s.vars apart W args.toList ds gs before) (hv : s.vars = []) (hrt : f.resultTypes = #[tb]) (ht : P.underlying tb = some .bool)
    (hfn : (s.fn H (ds ++ gs)).results = [.lit (.bool true)]) (hfa : (s.fn H (ds ++ gs)).args = ds) (hfv : (s.fn H (ds ++ gs)).vars = []) (hb : Ext W W') :
    s.post enc P f apart fresh handsOn again W args (.bool true) W' := by
  have hW' := hW
  have hlt : ∀ p ∈ before, p.block < W.heap.size := fun p hp => hW.lt p hp
  obtain ⟨p, q, hA, hV, rfl, hfz, hnd⟩ := hW
  rw [hv] at hV
  obtain ⟨rfl, rfl⟩ := trodVars_none hV
  simp only [List.append_nil] at hW' hlt
  refine post_of_ext (pa := p) (pv := []) (by simpa using hW') ?_ ?_ ?_ (by simp) hb (ok_one hrt rfl (okWide_bool_mk ht _))
  · intro b sp hd
    rw [hfn, hrt]
    exact trodAll_cons_mk (shut_bool ht _) trodAll_mk0
  · intro sp hs
    rw [hfa]
    exact all_stays hl hb hr hA hlt (fun x hx => hs x (by simpa using hx))
  · intro sp hs
    rw [hfv, hv]
    rfl
end
end Go.Proofs.Yteiknefajlocoaa
/- The reference's numbers, bit by bit, as plain functions. No program in sight. -/
namespace Go.Proofs.Yteiknefajlocoaa
open Go.RowKit

/-- bit i of a number -/
def tb (n : Int) (i : Nat) : Bool := decide (n / 2 ^ i % 2 = 1)
/-- an array of 64 bools, as the program holds it -/
def arr (f : Nat → Bool) : Array Value := ((List.range 64).map fun i => Value.bool (f i)).toArray
theorem arr_size (f : Nat → Bool) : (arr f).size = 64 := by simp [arr]
theorem arr_get (f : Nat → Bool) (i : Nat) (h : i < 64) : (arr f)[i]? = some (.bool (f i)) := by simp [arr, h]
theorem arr_at (f : Nat → Bool) (i : Nat) (h : i < (arr f).size) : (arr f)[i] = .bool (f i) := by simp [arr]
theorem arr_none (f : Nat → Bool) (i : Nat) (h : 64 ≤ i) : (arr f)[i]? = none := by simp [arr]; omega
theorem arr_congr {f g : Nat → Bool} (h : ∀ i, i < 64 → f i = g i) : arr f = arr g := by
  apply Array.ext_getElem?
  intro i
  rcases Nat.lt_or_ge i 64 with hi | hi
  · rw [arr_get f i hi, arr_get g i hi, h i hi]
  · rw [arr_none f i hi, arr_none g i hi]
theorem arr_set (f : Nat → Bool) (k : Nat) (hk : k < 64) (b : Bool) : (arr f).setIfInBounds k (.bool b) = arr (fun i => if i = k then b else f i) := by
  apply Array.ext_getElem?
  intro i
  rcases Nat.lt_or_ge i 64 with hi | hi
  · rw [arr_get _ i hi, Array.getElem?_setIfInBounds, arr_size]
    by_cases h : k = i
    · subst h; simp [hk]
    · rw [if_neg h, arr_get f i hi, if_neg (fun e => h e.symm)]
  · rw [arr_none _ i hi, Array.getElem?_eq_none (by simp [arr_size]; omega)]
theorem arr_one (f : Nat → Bool) : (arr f).all (·.oneCell') = true := by
  apply Array.all_eq_true_iff_forall_mem.2
  intro v hv
  simp only [arr, List.mem_toArray, List.mem_map] at hv
  obtain ⟨i, _, rfl⟩ := hv
  rfl
theorem arr_zero : arr (fun _ => false) = #[.bool false, .bool false, .bool false, .bool false, .bool false, .bool false, .bool false, .bool false, .bool false, .bool false, .bool false, .bool false, .bool false, .bool false, .bool false, .bool false, .bool false, .bool false, .bool false, .bool false, .bool false, .bool false, .bool false, .bool false, .bool false, .bool false, .bool false, .bool false, .bool false, .bool false, .bool false, .bool false, .bool false, .bool false, .bool false, .bool false, .bool false, .bool false, .bool false, .bool false, .bool false, .bool false, .bool false, .bool false, .bool false, .bool false, .bool false, .bool false, .bool false, .bool false, .bool false, .bool false, .bool false, .bool false, .bool false, .bool false, .bool false, .bool false, .bool false, .bool false, .bool false, .bool false, .bool false, .bool false] := by rfl

/-- the bits below k -/
def bitsTo (n : Int) (k : Nat) : Nat → Bool := fun i => decide (i < k) && tb n i
theorem bitsTo_zero (n : Int) : arr (bitsTo n 0) = arr (fun _ => false) := arr_congr fun i _ => by simp [bitsTo]
theorem bitsTo_all (n : Int) : arr (bitsTo n 64) = arr (tb n) := arr_congr fun i hi => by simp [bitsTo, hi]
theorem bitsTo_succ (n : Int) (k : Nat) (hk : k < 64) (b : Bool) (hb : b = tb n k) : (arr (bitsTo n k)).setIfInBounds k (.bool b) = arr (bitsTo n (k + 1)) := by
  rw [arr_set _ k hk]
  refine arr_congr fun i _ => ?_
  unfold bitsTo
  by_cases h : i = k
  · subst h; simp [hb]
  · rw [if_neg h]
    congr 1
    simp; omega
theorem half (n : Int) (k : Nat) : n / 2 ^ k / 2 = n / 2 ^ (k + 1) := by
  rw [Int.pow_succ, Int.ediv_ediv_of_nonneg (Int.le_of_lt (Int.pow_pos (by omega)))]
theorem half_bd (n : Int) (k : Nat) (h0 : -9223372036854775808 ≤ n) (h1 : n ≤ 9223372036854775807) : -9223372036854775808 ≤ n / 2 ^ k ∧ n / 2 ^ k ≤ 9223372036854775807 := by
  induction k with
  | zero => simpa using ⟨h0, h1⟩
  | succ k ih => rw [← half]; omega
theorem tmod2_even (m : Int) (h : m % 2 = 0) : m.tmod 2 = 0 := by
  rw [Int.tmod_eq_emod, if_pos (.inr (Int.dvd_of_emod_eq_zero h))]; omega
theorem tmod2_pos (m : Int) (h : ¬ m % 2 = 0) (h0 : 0 ≤ m) : m.tmod 2 = 1 := by
  rw [Int.tmod_eq_emod, if_pos (.inl h0)]; omega
theorem tmod2_neg (m : Int) (h : ¬ m % 2 = 0) (h0 : ¬ 0 ≤ m) : m.tmod 2 = -1 := by
  rw [Int.tmod_eq_emod, if_neg (by rintro (h1 | h1); exact h0 h1; exact h (Int.emod_eq_zero_of_dvd h1))]; omega
theorem tdiv2_even (m : Int) (h : m % 2 = 0) : m.tdiv 2 = m / 2 := by
  rw [Int.tdiv_eq_ediv, if_pos (.inr (Int.dvd_of_emod_eq_zero h))]; omega

/-- the number of bits, before it goes round -/
def sumTo (f : Nat → Bool) : Nat → Int
  | 0 => 0
  | k + 1 => sumTo f k + if f k then 2 ^ k else 0
def ofB (f : Nat → Bool) : Int := wrap64 (sumTo f 64)
theorem wrap64_add (x y : Int) : wrap64 (wrap64 x + wrap64 y) = wrap64 (x + y) := by unfold wrap64; omega
theorem sum_yes (f : Nat → Bool) (k : Nat) (h : f k = true) : wrap64 (wrap64 (sumTo f k) + wrap64 (2 ^ k)) = wrap64 (sumTo f (k + 1)) := by
  rw [wrap64_add, sumTo, h]; simp
theorem sum_no (f : Nat → Bool) (k : Nat) (h : f k = false) : wrap64 (sumTo f k) = wrap64 (sumTo f (k + 1)) := by
  rw [sumTo, h]; simp
theorem pow_yes (k : Nat) : wrap64 (wrap64 (2 ^ k) + wrap64 (2 ^ k)) = wrap64 (2 ^ (k + 1)) := by
  rw [wrap64_add, Int.pow_succ]; congr 1; omega
/-- bit by bit -/
def bop (op : Int) (x y : Bool) : Bool := if op = 4 then x && y else if op = 5 then x || y else x != y
/-- moved by -/
def mv (f : Nat → Bool) (s : Int) (i : Nat) : Bool := decide (0 ≤ (i : Int) - s) && decide ((i : Int) - s < 64) && f ((i : Int) - s).toNat
/-- what has been filled so far -/
def fillTo (f : Nat → Bool) (k : Nat) : Nat → Bool := fun i => decide (i < k) && f i
theorem fillTo_zero (f : Nat → Bool) : arr (fillTo f 0) = arr (fun _ => false) := arr_congr fun i _ => by simp [fillTo]
theorem fillTo_succ (f : Nat → Bool) (k : Nat) (hk : k < 64) (b : Bool) (hb : b = f k) : (arr (fillTo f k)).setIfInBounds k (.bool b) = arr (fillTo f (k + 1)) := by
  rw [arr_set _ k hk]
  refine arr_congr fun i _ => ?_
  unfold fillTo
  by_cases h : i = k
  · subst h; simp [hb]
  · rw [if_neg h]
    congr 1
    simp; omega
theorem sumTo_congr {f g : Nat → Bool} : ∀ k : Nat, (∀ i, i < k → f i = g i) → sumTo f k = sumTo g k
  | 0, _ => rfl
  | k + 1, h => by rw [sumTo, sumTo, sumTo_congr k (fun i hi => h i (by omega)), h k (by omega)]
theorem ofB_congr {f g : Nat → Bool} (h : ∀ i, i < 64 → f i = g i) : ofB f = ofB g := by unfold ofB; rw [sumTo_congr 64 h]
theorem ofB_fill (f : Nat → Bool) : ofB (fillTo f 64) = ofB f := ofB_congr fun i hi => by simp [fillTo, hi]

/-! what the bits come to -/
theorem pow_pos' (k : Nat) : (0 : Int) < 2 ^ k := Int.pow_pos (by omega)
theorem emod_pow_succ (n : Int) (k : Nat) : n % 2 ^ (k + 1) = n % 2 ^ k + 2 ^ k * (n / 2 ^ k % 2) := by
  have hp := pow_pos' k
  rw [Int.pow_succ]
  generalize (2 : Int) ^ k = p at *
  have hr0 := Int.emod_nonneg n (show p ≠ 0 by omega)
  have hr1 := Int.emod_lt_of_pos n hp
  have hd := Int.emod_add_mul_ediv n p
  have hq : n / p = n / p % 2 + 2 * (n / p / 2) := by omega
  have e : n = (n % p + p * (n / p % 2)) + p * 2 * (n / p / 2) := by
    conv => lhs; rw [← hd, hq, Int.mul_add, ← Int.add_assoc, ← Int.mul_assoc]
  conv => lhs; rw [e]
  rw [Int.add_mul_emod_self_left, Int.emod_eq_of_lt]
  · rcases Int.emod_two_eq (n / p) with h | h <;> rw [h] <;> omega
  · rcases Int.emod_two_eq (n / p) with h | h <;> rw [h] <;> omega
theorem sumTo_tb (n : Int) : ∀ k : Nat, sumTo (tb n) k = n % 2 ^ k
  | 0 => by simp [sumTo]
  | k + 1 => by
    rw [sumTo, sumTo_tb n k]
    have hp := pow_pos' k
    have h1 := emod_pow_succ n k
    rw [h1]
    unfold tb
    rcases Int.emod_two_eq (n / 2 ^ k) with h | h <;> simp [h]
theorem ofB_tb (n : Int) : ofB (tb n) = wrap64 n := by
  unfold ofB
  rw [sumTo_tb]
  unfold wrap64
  omega
theorem tb_u64 (a : Int) (i : Nat) (hi : i < 64) : tb (u64 a) i = tb a i := by
  unfold tb u64
  have h : (18446744073709551616 : Int) = 2 ^ i * 2 ^ (64 - i) := by rw [← Int.pow_add, show i + (64 - i) = 64 by omega]; rfl
  have h2 : (2 : Int) ^ (64 - i) = 2 * 2 ^ (63 - i) := by rw [show 64 - i = (63 - i) + 1 by omega, Int.pow_succ]; omega
  have hd : a = a % 18446744073709551616 + 18446744073709551616 * (a / 18446744073709551616) := by omega
  have e : a / 2 ^ i = a % 18446744073709551616 / 2 ^ i + 2 * (2 ^ (63 - i) * (a / 18446744073709551616)) := by
    conv => lhs; rw [hd, h, Int.mul_assoc, ← h]
    rw [Int.add_mul_ediv_left _ _ (by have := pow_pos' i; omega), h2, Int.mul_assoc]
  rw [e]
  congr 1
  simp
theorem tb_bv (a : Int) (i : Nat) (hi : i < 64) : (BitVec.ofInt 64 a).getLsbD i = tb a i := by
  rw [← tb_u64 a i hi, BitVec.getLsbD, Nat.testBit_eq_decide_div_mod_eq, BitVec.toNat_ofInt]
  unfold tb u64
  rw [decide_eq_decide]
  have h : ((a % 18446744073709551616).toNat : Int) = a % 18446744073709551616 := by omega
  have e : (((a % 18446744073709551616).toNat / 2 ^ i % 2 : Nat) : Int) = a % 18446744073709551616 / 2 ^ i % 2 := by
    rw [Int.natCast_emod, Int.natCast_ediv, h, Int.natCast_pow]; rfl
  have hz : ((a % ((2 ^ 64 : Nat) : Int)).toNat) = (a % 18446744073709551616).toNat := by rfl
  rw [hz]
  omega
theorem tb_nat (m : BitVec 64) (i : Nat) : tb (m.toNat : Int) i = m.getLsbD i := by
  rw [BitVec.getLsbD, Nat.testBit_eq_decide_div_mod_eq]
  unfold tb
  rw [decide_eq_decide]
  have e : ((m.toNat / 2 ^ i % 2 : Nat) : Int) = (m.toNat : Int) / 2 ^ i % 2 := by
    rw [Int.natCast_emod, Int.natCast_ediv, Int.natCast_pow]; rfl
  omega
theorem bitwise_and (a b : Int) : (ofB fun i => bop 4 (tb a i) (tb b i)) = bits .and .i64 a b := by
  rw [ofB_congr (g := tb (((BitVec.ofInt 64 a &&& BitVec.ofInt 64 b).toNat : Nat) : Int)) (fun i hi => by rw [tb_nat, BitVec.getLsbD_and, tb_bv a i hi, tb_bv b i hi]; rfl), ofB_tb, ← i64_is]; rfl
theorem bitwise_or (a b : Int) : (ofB fun i => bop 5 (tb a i) (tb b i)) = bits .or .i64 a b := by
  rw [ofB_congr (g := tb (((BitVec.ofInt 64 a ||| BitVec.ofInt 64 b).toNat : Nat) : Int)) (fun i hi => by rw [tb_nat, BitVec.getLsbD_or, tb_bv a i hi, tb_bv b i hi]; rfl), ofB_tb, ← i64_is]; rfl
theorem bitwise_xor (a b : Int) : (ofB fun i => bop 6 (tb a i) (tb b i)) = bits .xor .i64 a b := by
  rw [ofB_congr (g := tb (((BitVec.ofInt 64 a ^^^ BitVec.ofInt 64 b).toNat : Nat) : Int)) (fun i hi => by rw [tb_nat, BitVec.getLsbD_xor, tb_bv a i hi, tb_bv b i hi]; rfl), ofB_tb, ← i64_is]; rfl
theorem shl_is (a : Int) (s : Nat) (hs : s < 64) : ofB (mv (tb a) s) = wrap64 (u64 a * 2 ^ s) := by
  rw [← ofB_tb]
  refine ofB_congr fun i hi => ?_
  unfold mv
  by_cases h : s ≤ i
  · have e1 : ((i : Int) - s).toNat = i - s := by omega
    rw [decide_eq_true (by omega), decide_eq_true (by omega), e1, Bool.true_and, Bool.true_and, ← tb_u64 a _ (by omega)]
    unfold tb
    have e : (2 : Int) ^ i = 2 ^ (i - s) * 2 ^ s := by rw [← Int.pow_add, show i - s + s = i by omega]
    rw [e, Int.mul_ediv_mul_of_pos_left _ _ (pow_pos' s)]
  · rw [decide_eq_false (by omega), Bool.false_and, Bool.false_and]
    unfold tb
    have e : (2 : Int) ^ s = 2 ^ i * (2 * 2 ^ (s - i - 1)) := by
      rw [show s = i + ((s - i - 1) + 1) by omega, Int.pow_add, Int.pow_succ, show i + (s - i - 1 + 1) - i - 1 = s - i - 1 by omega]; congr 1; omega
    have e2 : u64 a * 2 ^ s / 2 ^ i = 2 * (u64 a * 2 ^ (s - i - 1)) := by
      rw [e, show u64 a * (2 ^ i * (2 * 2 ^ (s - i - 1))) = 2 ^ i * (2 * (u64 a * 2 ^ (s - i - 1))) by
        rw [← Int.mul_assoc, Int.mul_comm (u64 a), Int.mul_assoc]; congr 1; rw [← Int.mul_assoc, Int.mul_comm (u64 a) 2, Int.mul_assoc], Int.mul_ediv_cancel_left _ (by have := pow_pos' i; omega)]
    rw [e2, eq_comm, decide_eq_false_iff_not]
    omega
theorem shr_is (a : Int) (s : Nat) (hs : s < 64) : ofB (mv (tb a) (-(s : Int))) = wrap64 (u64 a / 2 ^ s) := by
  rw [← ofB_tb]
  refine ofB_congr fun i hi => ?_
  unfold mv
  have e1 : ((i : Int) - -(s : Int)).toNat = i + s := by omega
  rw [decide_eq_true (by omega : 0 ≤ (i : Int) - -(s : Int)), e1, Bool.true_and]
  have e : tb (u64 a / 2 ^ s) i = tb (u64 a) (i + s) := by
    unfold tb
    rw [Int.ediv_ediv_of_nonneg (Int.le_of_lt (pow_pos' s)), ← Int.pow_add, Nat.add_comm s i]
  rw [e]
  by_cases h : i + s < 64
  · rw [decide_eq_true (by omega), Bool.true_and, tb_u64 a _ h]
  · rw [decide_eq_false (by omega), Bool.false_and, eq_comm]
    unfold tb
    rw [decide_eq_false_iff_not]
    have hb : u64 a / 2 ^ (i + s) = 0 := by
      apply Int.ediv_eq_zero_of_lt (u64_nonneg a)
      have h1 := u64_lt a
      have h2 : (18446744073709551616 : Int) ≤ 2 ^ (i + s) := by
        rw [show i + s = 64 + (i + s - 64) by omega, Int.pow_add]
        have := pow_pos' (i + s - 64)
        have e64 : (2 : Int) ^ 64 = 18446744073709551616 := rfl
        rw [e64]; omega
      omega
    rw [hb]; omega

/-! dividing bit by bit -/
/-- what is left over, ahead of bit k -/
def rst (A B : Int) (k : Nat) : Int := A / 2 ^ k % B
theorem rst_step (A B : Int) (k : Nat) (h0 : 0 ≤ A) (hB : 0 < B) :
    (rst A B k = 2 * rst A B (k + 1) + (A / 2 ^ k % 2) - (if B ≤ 2 * rst A B (k + 1) + (A / 2 ^ k % 2) then B else 0)) ∧
    tb (A / B) k = decide (B ≤ 2 * rst A B (k + 1) + (A / 2 ^ k % 2)) := by
  unfold rst tb
  have hp := pow_pos' k
  rw [← half A k, Int.ediv_ediv_of_nonneg (Int.le_of_lt hB), Int.mul_comm B, ← Int.ediv_ediv_of_nonneg (Int.le_of_lt hp)]
  have hm : 0 ≤ A / 2 ^ k := Int.ediv_nonneg h0 (Int.le_of_lt hp)
  generalize A / 2 ^ k = m at *
  have r0 := Int.emod_nonneg (m / 2) (show B ≠ 0 by omega)
  have r1 := Int.emod_lt_of_pos (m / 2) hB
  have hd := Int.emod_add_mul_ediv (m / 2) B
  generalize m / 2 % B = r at *
  generalize m / 2 / B = q at *
  have hme : m = (2 * r + m % 2) + B * (2 * q) := by
    have : B * (2 * q) = 2 * (B * q) := by rw [← Int.mul_assoc, Int.mul_comm B 2, Int.mul_assoc]
    omega
  by_cases h : B ≤ 2 * r + m % 2
  · have e1 : m % B = 2 * r + m % 2 - B := by
      conv => lhs; rw [hme]
      rw [Int.add_mul_emod_self_left, ← Int.sub_emod_right, Int.emod_eq_of_lt (by omega) (by omega)]
    have e2 : m / B = 2 * q + 1 := by
      have e3 := Int.emod_add_mul_ediv m B
      have : B * (m / B) = B * (2 * q + 1) := by rw [Int.mul_add]; omega
      exact Int.eq_of_mul_eq_mul_left (by omega) this
    rw [if_pos h, e1, e2, decide_eq_true h]
    exact ⟨by omega, by simp⟩
  · have e1 : m % B = 2 * r + m % 2 := by
      conv => lhs; rw [hme]
      rw [Int.add_mul_emod_self_left, Int.emod_eq_of_lt (by omega) (by omega)]
    have e2 : m / B = 2 * q := by
      have e3 := Int.emod_add_mul_ediv m B
      have : B * (m / B) = B * (2 * q) := by omega
      exact Int.eq_of_mul_eq_mul_left (by omega) this
    rw [if_neg h, e1, e2, decide_eq_false h]
    exact ⟨by omega, by simp⟩
theorem rst_bd (A B : Int) (k : Nat) (hB : 0 < B) : 0 ≤ rst A B k ∧ rst A B k < B := ⟨Int.emod_nonneg _ (by omega), Int.emod_lt_of_pos _ hB⟩
theorem rst_top (A B : Int) (h0 : 0 ≤ A) (h1 : A < 18446744073709551616) : rst A B 64 = 0 := by
  unfold rst
  have e : A / 2 ^ 64 = 0 := Int.ediv_eq_zero_of_lt h0 h1
  rw [e, Int.zero_emod]
/-- the bits from k on -/
def hiFrom (f : Nat → Bool) (k : Nat) : Nat → Bool := fun i => decide (k ≤ i) && f i
theorem hiFrom_top (f : Nat → Bool) : arr (hiFrom f 64) = arr (fun _ => false) := arr_congr fun i hi => by simp [hiFrom]; omega
theorem hiFrom_yes (f : Nat → Bool) (k : Nat) (hk : k < 64) (hb : f k = true) : (arr (hiFrom f (k + 1))).setIfInBounds k (.bool true) = arr (hiFrom f k) := by
  rw [arr_set _ k hk]
  refine arr_congr fun i _ => ?_
  unfold hiFrom
  by_cases h : i = k
  · subst h; simp [hb]
  · rw [if_neg h]
    congr 1
    simp; omega
theorem hiFrom_no (f : Nat → Bool) (k : Nat) (hb : f k = false) : arr (hiFrom f (k + 1)) = arr (hiFrom f k) := by
  refine arr_congr fun i _ => ?_
  unfold hiFrom
  by_cases h : i = k
  · subst h; simp [hb]
  · congr 1; simp; omega
theorem wrap64_neg (r : Int) (h0 : 0 ≤ r) (h1 : r < 18446744073709551616) : (wrap64 r < 0) ↔ 9223372036854775808 ≤ r := by unfold wrap64; omega
theorem wrap64_two (r : Int) : wrap64 (wrap64 r + wrap64 r) = wrap64 (2 * r) := by unfold wrap64; omega
theorem wrap64_one (r : Int) : wrap64 (wrap64 r + 1) = wrap64 (r + 1) := by unfold wrap64; omega
theorem wrap64_sub (r b : Int) : wrap64 (wrap64 r - b) = wrap64 (r - u64 b) := by unfold wrap64 u64; omega
theorem u64_wrap64 (r : Int) : u64 (wrap64 r) = r % 18446744073709551616 := by unfold wrap64 u64; omega
/-- Below -/
def nbelow (a b : Int) : Bool := decide (u64 a < u64 b)
theorem nbelow_other {a b : Int} (a0 : -9223372036854775808 ≤ a) (a1 : a ≤ 9223372036854775807) (b0 : -9223372036854775808 ≤ b) (b1 : b ≤ 9223372036854775807) :
    nbelow a b = if decide (a < 0) != decide (b < 0) then decide (b < 0) else decide (a < b) := by
  unfold nbelow u64
  by_cases ha : a < 0 <;> by_cases hb : b < 0 <;> simp [ha, hb] <;> omega
end Go.Proofs.Yteiknefajlocoaa
/- WHAT IS KNOWN IS SO, in plain Lean: what comes of numbers that fit fits what is told of it. No program in sight. -/
namespace Go.Proofs.Yteiknefajlocoaa
open Go.RowKit

theorem khas_17 {b n : Int} (h : nrm b = 17) : khas b n = true := by unfold khas kfit; rw [h]; rfl
theorem khas_iff {b : Int} {m : Nat} (h : nrm b = m) (hm : m ≤ 16) (n : Int) : khas b n = true ↔ 0 ≤ n ∧ n < 2 ^ m := by
  unfold khas kfit
  rw [h, Int.toNat_natCast]
  simp
  omega
theorem bits_of (b : Int) : nrm b = 17 ∨ ∃ m : Nat, nrm b = m ∧ m ≤ 16 := by
  obtain ⟨h0, h1⟩ := nrm_bd b
  by_cases h : nrm b = 17
  · exact .inl h
  · exact .inr ⟨(nrm b).toNat, by omega, by omega⟩
theorem pow_16 (m : Nat) (h : m ≤ 16) : (2 : Int) ^ m ≤ 65536 := pow_le m 16 h
theorem pow_one (m : Nat) : (1 : Int) ≤ 2 ^ m := by have : (0 : Int) < 2 ^ m := Int.pow_pos (by omega); omega
/-- fits fewer, fits more -/
theorem khas_mono {b c n : Int} (h : nrm b ≤ nrm c) (hb : khas b n = true) : khas c n = true := by
  rcases bits_of c with hc | ⟨k, hc, hk⟩
  · exact khas_17 hc
  · rcases bits_of b with hb' | ⟨m, hb', hm⟩
    · omega
    · rw [khas_iff hb' hm] at hb
      rw [khas_iff hc hk]
      have := pow_le m k (by omega)
      omega
theorem khas_of (n : Int) : khas (kof n) n = true := by
  obtain ⟨h0, h1⟩ := kof_bd n
  by_cases h : kof n ≤ 16
  · have := kof_fits n (kof n).toNat (by omega)
    rw [show (((kof n).toNat : Nat) : Int) = kof n by omega] at this
    rw [this]; simp
  · exact khas_17 (by rw [nrm_id h0 h1]; omega)
theorem u64_small {n : Int} (h0 : 0 ≤ n) (h1 : n < 18446744073709551616) : u64 n = n := by unfold u64; omega
theorem khas_less {b c n m : Int} (n0 : -9223372036854775808 ≤ n) (n1 : n ≤ 9223372036854775807) (hn : khas b n = true) (hm : khas c m = true) (h : nbelow m n = false) : khas (min (nrm b) (nrm c)) n = true := by
  obtain ⟨b0, b1⟩ := nrm_bd b
  obtain ⟨c0, c1⟩ := nrm_bd c
  have e : nrm (min (nrm b) (nrm c)) = min (nrm b) (nrm c) := nrm_id (by omega) (by omega)
  by_cases hbc : nrm b ≤ nrm c
  · exact khas_mono (by rw [e]; omega) hn
  · rcases bits_of c with hc | ⟨k, hc, hk⟩
    · omega
    · rw [khas_iff hc hk] at hm
      have hp := pow_16 k hk
      unfold nbelow at h
      rw [u64_small hm.1 (by omega)] at h
      simp at h
      -- n is at most m, from 0 on; n is a number of 64 bits
      rw [khas_iff (b := min (nrm b) (nrm c)) (m := k) (by rw [e]; omega) hk]
      rcases bits_of b with hb | ⟨j, hb, hj⟩
      · unfold u64 at h; omega
      · rw [khas_iff hb hj] at hn
        have hq := pow_16 j hj
        rw [u64_small hn.1 (by omega)] at h
        omega

theorem wrap64_small {n : Int} (h0 : 0 ≤ n) (h1 : n ≤ 9223372036854775807) : wrap64 n = n := by unfold wrap64; omega
/-- bits.and of a number and a small one -/
theorem and_small (n m : Int) (h0 : 0 ≤ m) (h1 : m < 65536) : 0 ≤ bits .and .i64 n m ∧ bits .and .i64 n m ≤ m := by
  have e : bits .and .i64 n m = IntKind.i64.wrap ((BitVec.ofInt 64 n &&& BitVec.ofInt 64 m).toNat : Int) := rfl
  have hm : (BitVec.ofInt 64 m).toNat = m.toNat := by rw [BitVec.toNat_ofInt]; omega
  have hl : (BitVec.ofInt 64 n &&& BitVec.ofInt 64 m).toNat ≤ m.toNat := by
    rw [BitVec.toNat_and, hm]; exact Nat.and_le_right
  rw [e, i64_is, wrap64_small (by omega) (by omega)]
  omega
theorem and_comm' (n m : Int) : bits .and .i64 n m = bits .and .i64 m n := by
  show IntKind.i64.wrap ((BitVec.ofInt 64 n &&& BitVec.ofInt 64 m).toNat : Int) = IntKind.i64.wrap ((BitVec.ofInt 64 m &&& BitVec.ofInt 64 n).toNat : Int)
  rw [BitVec.and_comm]
theorem nat_pow_cast (k : Nat) : ((2 ^ k : Nat) : Int) = (2 : Int) ^ k := by rw [Int.natCast_pow]; rfl
theorem or_small (n m : Int) (k : Nat) (hk : k ≤ 16) (n0 : 0 ≤ n) (n1 : n < 2 ^ k) (m0 : 0 ≤ m) (m1 : m < 2 ^ k) : 0 ≤ bits .or .i64 n m ∧ bits .or .i64 n m < 2 ^ k := by
  have e : bits .or .i64 n m = IntKind.i64.wrap ((BitVec.ofInt 64 n ||| BitVec.ofInt 64 m).toNat : Int) := rfl
  have hp := pow_16 k hk
  have hc := nat_pow_cast k
  have hn : (BitVec.ofInt 64 n).toNat = n.toNat := by rw [BitVec.toNat_ofInt]; omega
  have hm : (BitVec.ofInt 64 m).toNat = m.toNat := by rw [BitVec.toNat_ofInt]; omega
  have hl : (BitVec.ofInt 64 n ||| BitVec.ofInt 64 m).toNat < 2 ^ k := by
    rw [BitVec.toNat_or, hn, hm]; exact Nat.or_lt_two_pow (by omega) (by omega)
  rw [e, i64_is, wrap64_small (by omega) (by omega)]
  omega
theorem xor_small (n m : Int) (k : Nat) (hk : k ≤ 16) (n0 : 0 ≤ n) (n1 : n < 2 ^ k) (m0 : 0 ≤ m) (m1 : m < 2 ^ k) : 0 ≤ bits .xor .i64 n m ∧ bits .xor .i64 n m < 2 ^ k := by
  have e : bits .xor .i64 n m = IntKind.i64.wrap ((BitVec.ofInt 64 n ^^^ BitVec.ofInt 64 m).toNat : Int) := rfl
  have hp := pow_16 k hk
  have hc := nat_pow_cast k
  have hn : (BitVec.ofInt 64 n).toNat = n.toNat := by rw [BitVec.toNat_ofInt]; omega
  have hm : (BitVec.ofInt 64 m).toNat = m.toNat := by rw [BitVec.toNat_ofInt]; omega
  have hl : (BitVec.ofInt 64 n ^^^ BitVec.ofInt 64 m).toNat < 2 ^ k := by
    rw [BitVec.toNat_xor, hn, hm]; exact Nat.xor_lt_two_pow (by omega) (by omega)
  rw [e, i64_is, wrap64_small (by omega) (by omega)]
  omega

theorem kop_bd (op a b : Int) (a0 : 0 ≤ a) (a1 : a ≤ 17) (b0 : 0 ≤ b) (b1 : b ≤ 17) : 0 ≤ kop op a b ∧ kop op a b ≤ 17 := by
  unfold kop kopN
  split
  · split <;> omega
  repeat' (split <;> try omega)

/-- E4: what comes of two numbers is known as is told -/
theorem khas_op {op b c n m : Int} (hn : khas b n = true) (hm : khas c m = true) : khas (kop op (nrm b) (nrm c)) (nop op n m) = true := by
  obtain ⟨b0, b1⟩ := nrm_bd b
  obtain ⟨c0, c1⟩ := nrm_bd c
  obtain ⟨k0, k1⟩ := kop_bd op (nrm b) (nrm c) b0 b1 c0 c1
  have ek := nrm_id k0 k1
  by_cases h17 : kop op (nrm b) (nrm c) = 17
  · exact khas_17 (by rw [ek, h17])
  -- what is told is at most 16 bits
  obtain ⟨k, hk⟩ : ∃ k : Nat, kop op (nrm b) (nrm c) = k := ⟨(kop op (nrm b) (nrm c)).toNat, by omega⟩
  have hk16 : k ≤ 16 := by omega
  rw [khas_iff (by rw [ek, hk]) hk16]
  have hpk := pow_one k
  by_cases h1 : op = 1
  · subst h1
    rcases bits_of b with hb | ⟨i, hb, hi⟩
    · exfalso; apply h17; rw [hb]; simp [kop, kopN]; split <;> omega
    rcases bits_of c with hc | ⟨j, hc, hj⟩
    · exfalso; apply h17; rw [hc]; simp [kop, kopN]; split <;> omega
    rw [khas_iff hb hi] at hn
    rw [khas_iff hc hj] at hm
    have p1 := pow_16 i hi
    have p2 := pow_16 j hj
    have e : nop 1 n m = wrap64 (n + m) := rfl
    rw [e, wrap64_small (by omega) (by omega)]
    have hkop : kop 1 (nrm b) (nrm c) = min (max (nrm b) (nrm c) + (if 0 < min (nrm b) (nrm c) then 1 else 0)) 17 := rfl
    rw [hb, hc] at hkop hk
    by_cases hz : 0 < min (i : Int) (j : Int)
    · rw [if_pos hz] at hkop
      have q1 := pow_le i (max i j) (by omega)
      have q2 := pow_le j (max i j) (by omega)
      have q3 : (2 : Int) ^ k = 2 ^ (max i j) * 2 := by rw [← Int.pow_succ]; congr 1; omega
      omega
    · rw [if_neg hz] at hkop
      have q1 := pow_le i k (by omega)
      have q2 := pow_le j k (by omega)
      rcases (show i = 0 ∨ j = 0 by omega) with h | h
      · subst h; simp at hn; omega
      · subst h; simp at hm; omega
  by_cases h3 : op = 3
  · subst h3
    have hkop : kop 3 (nrm b) (nrm c) = min (if nrm b = 0 ∨ nrm c = 0 then 0 else nrm b + nrm c) 17 := rfl
    have e : nop 3 n m = wrap64 (n * m) := rfl
    rw [e]
    by_cases hz : nrm b = 0 ∨ nrm c = 0
    · rw [if_pos hz] at hkop
      have hnm : n * m = 0 := by
        rcases hz with h | h
        · rw [khas_iff (m := 0) h (by omega)] at hn; simp at hn
          obtain rfl : n = 0 := by omega
          simp
        · rw [khas_iff (m := 0) h (by omega)] at hm; simp at hm
          obtain rfl : m = 0 := by omega
          simp
      rw [hnm, wrap64_small (by omega) (by omega)]
      omega
    · rw [if_neg hz] at hkop
      rcases bits_of b with hb | ⟨i, hb, hi⟩
      · omega
      rcases bits_of c with hc | ⟨j, hc, hj⟩
      · omega
      rw [khas_iff hb hi] at hn
      rw [khas_iff hc hj] at hm
      have q3 : (2 : Int) ^ k = 2 ^ i * 2 ^ j := by rw [← Int.pow_add]; congr 1; omega
      have l1 : n * m < 2 ^ i * 2 ^ j := by
        have h1 : n * m ≤ n * 2 ^ j := Int.mul_le_mul_of_nonneg_left (by omega) hn.1
        have h2 : n * 2 ^ j < 2 ^ i * 2 ^ j := Int.mul_lt_mul_of_pos_right hn.2 (Int.pow_pos (by omega))
        omega
      have l0 : 0 ≤ n * m := Int.mul_nonneg hn.1 hm.1
      have p := pow_16 k hk16
      rw [wrap64_small l0 (by omega)]
      omega
  by_cases h4 : op = 4
  · subst h4
    have hkop : kop 4 (nrm b) (nrm c) = min (min (nrm b) (nrm c)) 17 := rfl
    have e : nop 4 n m = bits .and .i64 n m := rfl
    rw [e]
    by_cases hbc : nrm c ≤ nrm b
    · have hc : nrm c = k := by omega
      rw [khas_iff hc hk16] at hm
      have := and_small n m hm.1 (by have := pow_16 k hk16; omega)
      omega
    · have hb : nrm b = k := by omega
      rw [khas_iff hb hk16] at hn
      have := and_small m n hn.1 (by have := pow_16 k hk16; omega)
      rw [and_comm']
      omega
  by_cases h5 : op = 5 ∨ op = 6
  · have hkop : kop op (nrm b) (nrm c) = min (max (nrm b) (nrm c)) 17 := by rcases h5 with rfl | rfl <;> rfl
    rcases bits_of b with hb | ⟨i, hb, hi⟩
    · omega
    rcases bits_of c with hc | ⟨j, hc, hj⟩
    · omega
    rw [khas_iff hb hi] at hn
    rw [khas_iff hc hj] at hm
    have q1 := pow_le i k (by omega)
    have q2 := pow_le j k (by omega)
    rcases h5 with rfl | rfl
    · exact or_small n m k hk16 hn.1 (by omega) hm.1 (by omega)
    · exact xor_small n m k hk16 hn.1 (by omega) hm.1 (by omega)
  by_cases h8 : op = 8 ∨ op = 9 ∨ op = 10
  · have hkop : kop op (nrm b) (nrm c) = min (nrm b) 17 := by rcases h8 with rfl | rfl | rfl <;> rfl
    have hb : nrm b = k := by omega
    rw [khas_iff hb hk16] at hn
    have p := pow_16 k hk16
    have hu : u64 n = n := u64_small hn.1 (by omega)
    have hum := u64_nonneg m
    rcases h8 with rfl | rfl | rfl
    · have e : nop 8 n m = wrap64 (u64 n / 2 ^ sh m) := rfl
      rw [e, hu]
      have d0 : 0 ≤ n / 2 ^ sh m := Int.ediv_nonneg hn.1 (Int.le_of_lt (pow_pos' _))
      have d1 : n / 2 ^ sh m ≤ n := Int.ediv_le_self _ hn.1
      rw [wrap64_small d0 (by omega)]
      omega
    · have e : nop 9 n m = if u64 m = 0 then 0 else wrap64 (u64 n / u64 m) := rfl
      rw [e, hu]
      split
      · omega
      · have d0 : 0 ≤ n / u64 m := Int.ediv_nonneg hn.1 hum
        have d1 : n / u64 m ≤ n := Int.ediv_le_self _ hn.1
        rw [wrap64_small d0 (by omega)]
        omega
    · have e : nop 10 n m = if u64 m = 0 then n else wrap64 (u64 n % u64 m) := rfl
      rw [e, hu]
      split
      · omega
      · rename_i hz
        have d0 : 0 ≤ n % u64 m := Int.emod_nonneg _ hz
        have d1 : n % u64 m ≤ n := by
          have := Int.emod_add_mul_ediv n (u64 m)
          have h2 : 0 ≤ u64 m * (n / u64 m) := Int.mul_nonneg hum (Int.ediv_nonneg hn.1 hum)
          omega
        rw [wrap64_small d0 (by omega)]
        omega
  · exfalso
    apply h17
    unfold kop
    rw [kopN_other _ _ h1 h3 h4 (fun h => h5 (.inl h)) (fun h => h5 (.inr h)) (fun h => h8 (.inl h)) (fun h => h8 (.inr (.inl h))) (fun h => h8 (.inr (.inr h)))]
    rfl
end Go.Proofs.Yteiknefajlocoaa
/- What a check tells is so: no fault, and nothing secret is told. No program in sight. -/
namespace Go.Proofs.Yteiknefajlocoaa
open Go.RowKit
set_option linter.unusedSimpArgs false
set_option linter.unusedVariables false

/-! which words are secret -/
def secAt : List LReg → Nat → Bool
  | [], _ => false
  | r :: l, n => if n < wordsOf r then r.secret else secAt l (n - wordsOf r)
theorem secAt_base : ∀ (l : List LReg) (r x : Nat), r < l.length → x < wordsOf (l.getD r default) → secAt l (((l.take r).map wordsOf).sum + x) = (l.getD r default).secret
  | [], r, x, h, _ => by simp at h
  | a :: l, 0, x, _, h => by
    simp only [List.getD_cons_zero] at h
    simp [secAt, h]
  | a :: l, r + 1, x, h, hx => by
    simp only [List.getD_cons_succ] at hx
    have := secAt_base l r x (by simpa using h) hx
    simp only [List.take_succ_cons, List.map_cons, List.sum_cons, List.getD_cons_succ, secAt]
    rw [if_neg (by omega), show wordsOf a + ((l.take r).map wordsOf).sum + x - wordsOf a = ((l.take r).map wordsOf).sum + x by omega, this]
def secW (p : LProg) (n : Nat) : Bool := secAt p.regs n
/-- two rows of words have the same public ones -/
def Pub (p : LProg) (a b : List Int) : Prop := ∀ n, secW p n = false → a.getD n 0 = b.getD n 0

/-! registers and words are of 64 bits -/
def All64 (l : List Int) : Prop := ∀ n : Nat, R64 (l.getD n 0)
theorem r64_zero : R64 0 := ⟨by omega, by omega⟩
theorem r64_wrap (x : Int) : R64 (wrap64 x) := by unfold R64 wrap64; omega
theorem bits_wrapped (a b : Int) : R64 (bits .and .i64 a b) ∧ R64 (bits .or .i64 a b) ∧ R64 (bits .xor .i64 a b) := by
  have e : ∀ x : Int, R64 (IntKind.i64.wrap x) := fun x => by rw [i64_is]; exact r64_wrap x
  exact ⟨e _, e _, e _⟩
theorem r64_nop {op a b : Int} (ha : R64 a) : R64 (nop op a b) := by
  have hb := bits_wrapped a b
  unfold nop
  repeat' split
  all_goals first | exact r64_wrap _ | exact hb.1 | exact hb.2.1 | exact hb.2.2 | exact ha | exact r64_zero
theorem All64.set {l : List Int} (h : All64 l) (k : Nat) {x : Int} (hx : R64 x) : All64 (l.set k x) := fun n => by
  rw [List.getD_eq_getElem?_getD, List.getElem?_set]
  by_cases e : k = n
  · subst e
    by_cases h2 : k < l.length
    · simpa [h2] using hx
    · simpa [h2] using r64_zero
  · rw [if_neg e, ← List.getD_eq_getElem?_getD]; exact h n
theorem set_get (l : List Int) (k : Nat) (x : Int) (n : Nat) : (l.set k x).getD n 0 = if n = k ∧ n < l.length then x else l.getD n 0 := by
  rw [List.getD_eq_getElem?_getD, List.getElem?_set]
  by_cases e : k = n
  · subst e
    by_cases h2 : k < l.length <;> simp [h2]
  · rw [if_neg e, if_neg (by omega), ← List.getD_eq_getElem?_getD]

/-! what is known of registers is so -/
def Sat (s : KSt) (r : List Int) : Prop := ∀ j, j < 8 → khas (s.getD j default).bits (r.getD j 0) = true
theorem Sat.mono {s t : KSt} {r : List Int} (hs : Sok s) (ht : Sok t) (h : Sat s r) (k : Sle s t) : Sat t r := fun j hj => by
  refine khas_mono ?_ (h j hj)
  rw [nrm_ok (hs.ok j), nrm_ok (ht.ok j)]
  exact (k j).1
theorem Sat.set {s : KSt} {r : List Int} (h : Sat s r) (hl : s.length = 8) (hr : r.length = 10) (a : Int) {k : LKn} {v : Int} (hv : khas k.bits v = true) : Sat (kset s a k) (rset r a v) := fun j hj => by
  rw [kset_get, hl]
  unfold rset
  rw [set_get, hr]
  by_cases e : j = a.toNat
  · rw [if_pos ⟨e, hj⟩, if_pos ⟨e, by omega⟩]; exact hv
  · rw [if_neg (by omega), if_neg (by omega)]; exact h j hj
/-- the state alone is turned, of a register that is as it was -/
theorem Sat.know {s : KSt} {r : List Int} (h : Sat s r) (hl : s.length = 8) (a : Int) {k : LKn} (hv : khas k.bits (rg r a) = true) : Sat (kset s a k) r := fun j hj => by
  rw [kset_get, hl]
  by_cases e : j = a.toNat
  · rw [if_pos ⟨e, hj⟩, e]; exact hv
  · rw [if_neg (by omega)]; exact h j hj
theorem okIn_iff {b n : Int} : okIn b n = true ↔ 0 ≤ n ∧ n < b := by simp [okIn]
theorem Sat.at_ {s : KSt} {r : List Int} (h : Sat s r) {a : Int} (ha : okIn 8 a = true) : khas (kg s a).bits (rg r a) = true := by
  rw [okIn_iff] at ha
  exact h a.toNat (by omega)
theorem khas_zero (b : Int) : khas b 0 = true := by
  unfold khas kfit
  simp [Int.pow_pos]
theorem khas_sum {k : LKn} {x n : Int} (h : khas k.bits x = true) : khas (ksum k n).bits (wrap64 (x + n)) = true := by
  unfold ksum
  split
  · exact khas_17 rfl
  · exact khas_op (op := 1) h (khas_of n)
theorem khas_less' {a b : LKn} {n m : Int} (h : R64 n) (hn : khas a.bits n = true) (hm : khas b.bits m = true) (hb : nbelow m n = false) : khas (kless a b).bits n = true := khas_less h.1 h.2 hn hm hb

/-- the index of a word that is known to be there -/
theorem idx_inside {p : LProg} {s : KSt} {r : List Int} {i : LIns} (h : Sat s r) (hb : okIn 8 i.b = true) (hs : Sok s) (hop : i.op = 3 ∨ i.op = 4) (hn : 0 ≤ i.n) (hk : (ksum (kg s i.b) i.n).bits ≤ (regOf p i).log) (hl : (regOf p i).log ≤ 6) :
    insideB p i (idxOf r i) = true := by
  have e : idxOf r i = wrap64 (rg r i.b + i.n) := by unfold idxOf; rw [if_neg (by omega)]
  have h1 := khas_sum (n := i.n) (h.at_ hb)
  have ok := ksum_ok (kg s i.b) i.n
  rw [e]
  obtain ⟨m, hm⟩ : ∃ m : Nat, (ksum (kg s i.b) i.n).bits = m := ⟨(ksum (kg s i.b) i.n).bits.toNat, by have := ok.1; omega⟩
  rw [khas_iff (m := m) (by rw [nrm_ok ok, hm]) (by omega)] at h1
  have h2 := pow_le m (regOf p i).log.toNat (by omega)
  have h3 : ((wordsOf (regOf p i) : Nat) : Int) = 2 ^ (regOf p i).log.toNat := by unfold wordsOf; rw [Int.natCast_pow]; rfl
  simp only [insideB, Bool.and_eq_true, decide_eq_true_eq]
  rw [h3]
  omega

/-! one run -/
structure Good (p : LProg) (s : KSt) (a : Plc) : Prop where
  regs : a.regs.length = 10
  r64 : All64 a.regs
  sat : Sat s a.regs
  words : a.words.length = total p
  w64 : All64 a.words
  past : a.past.length = total p
  p64 : ∀ n, All64 (a.past.getD n [])
theorem Good.mono {p : LProg} {s t : KSt} {a : Plc} (hs : Sok s) (ht : Sok t) (h : Good p s a) (k : Sle s t) : Good p t a := ⟨h.1, h.2, h.3.mono hs ht k, h.4, h.5, h.6, h.7⟩
theorem Good.goTo {p : LProg} {s : KSt} {a : Plc} (h : Good p s a) (k : Nat) : Good p s { a with at_ := k } := ⟨h.1, h.2, h.3, h.4, h.5, h.6, h.7⟩
/-- what comes of an instruction of registers alone -/
theorem plainR_cases (r : List Int) (i : LIns) (P : List Int → Prop) (h1 : i.op = 1 → P (rset r i.a i.n)) (h2 : i.op = 2 → P (rset r i.a (rg r i.b))) (h10 : i.op = 10 → P (rset r i.a (wrap64 (rg r i.b + i.n))))
    (h11 : i.op = 11 → (rg r i.a < 0 ∨ i.n ≤ rg r i.a → P (rset r i.a 0)) ∧ (0 ≤ rg r i.a ∧ rg r i.a < i.n → P r)) (h12 : i.op = 12 → P r)
    (ho : i.op ≠ 1 → i.op ≠ 2 → i.op ≠ 10 → i.op ≠ 11 → i.op ≠ 12 → P (rset r i.a (nop (i.op - 20) (rg r i.b) (rg r i.c)))) : P (plainR r i) := by
  unfold plainR
  by_cases e1 : i.op = 1
  · rw [if_pos e1]; exact h1 e1
  rw [if_neg e1]
  by_cases e2 : i.op = 2
  · rw [if_pos e2]; exact h2 e2
  rw [if_neg e2]
  by_cases e10 : i.op = 10
  · rw [if_pos e10]; exact h10 e10
  rw [if_neg e10]
  by_cases e11 : i.op = 11
  · rw [if_pos e11]
    split
    · rename_i h; exact (h11 e11).1 h
    · rename_i h; exact (h11 e11).2 (by omega)
  rw [if_neg e11]
  by_cases e12 : i.op = 12
  · rw [if_pos e12]; exact h12 e12
  rw [if_neg e12]
  exact ho e1 e2 e10 e11 e12
theorem rset_len (r : List Int) (a v : Int) : (rset r a v).length = r.length := by simp [rset]
theorem All64.rset {r : List Int} (h : All64 r) (a : Int) {v : Int} (hv : R64 v) : All64 (rset r a v) := h.set _ hv
theorem all64_plain {r : List Int} {i : LIns} (h : All64 r) (hn : R64 i.n) : All64 (plainR r i) :=
  plainR_cases r i All64 (fun _ => h.rset _ hn) (fun _ => h.rset _ (h _)) (fun _ => h.rset _ (r64_wrap _)) (fun _ => ⟨fun _ => h.rset _ r64_zero, fun _ => h⟩) (fun _ => h) (fun _ _ _ _ _ => h.rset _ (r64_nop (h _)))
theorem plain_len (r : List Int) (i : LIns) : (plainR r i).length = r.length :=
  plainR_cases r i (fun r' => r'.length = r.length) (fun _ => rset_len _ _ _) (fun _ => rset_len _ _ _) (fun _ => rset_len _ _ _) (fun _ => ⟨fun _ => rset_len _ _ _, fun _ => rfl⟩) (fun _ => rfl) (fun _ _ _ _ _ => rset_len _ _ _)
/-- which registers an instruction names, of a program that may be -/
theorem ins_regs {p : LProg} {R : Int} {i : LIns} (h : insOk p R i = true) :
    (i.op = 1 → okIn R i.a = true) ∧ (i.op = 2 → okIn R i.a = true ∧ okIn R i.b = true) ∧ (i.op = 10 → okIn R i.a = true ∧ okIn R i.b = true) ∧ (i.op = 3 ∨ i.op = 4 → okIn R i.a = true ∧ okIn R i.b = true) ∧
      (i.op = 5 ∨ i.op = 6 → okIn R i.a = true) ∧ (i.op = 8 → okIn R i.a = true ∧ okIn R i.b = true ∧ 1 ≤ i.c ∧ i.c ≤ 4) ∧ (i.op = 9 → okIn R i.a = true) ∧ (i.op = 11 → okIn R i.a = true ∧ 1 ≤ i.n ∧ i.n ≤ 64) ∧
      (i.op ≠ 1 → i.op ≠ 2 → i.op ≠ 10 → i.op ≠ 3 → i.op ≠ 4 → i.op ≠ 5 → i.op ≠ 6 → i.op ≠ 7 → i.op ≠ 8 → i.op ≠ 9 → i.op ≠ 11 → i.op ≠ 12 → okIn R i.a = true ∧ okIn R i.b = true ∧ okIn R i.c = true ∧ 21 ≤ i.op ∧ i.op ≤ 30) ∧
      (i.op = 7 ∨ i.op = 8 → 0 ≤ i.n ∧ i.n.toNat < p.code.length) ∧ (1 ≤ i.op ∧ i.op ≤ 12 ∨ 21 ≤ i.op ∧ i.op ≤ 30) := by
  simp only [insOk] at h
  by_cases e1 : i.op = 1
  · simp [e1, okIn] at h ⊢; omega
  by_cases e2 : i.op = 2
  · simp [e2, okIn] at h ⊢; omega
  by_cases e10 : i.op = 10
  · simp [e10, okIn] at h ⊢; omega
  by_cases e3 : i.op = 3 ∨ i.op = 4
  · rcases e3 with e3 | e3 <;> simp [e3, okIn] at h ⊢ <;> omega
  by_cases e5 : i.op = 5 ∨ i.op = 6
  · rcases e5 with e5 | e5 <;> simp [e5, okIn] at h ⊢ <;> omega
  by_cases e7 : i.op = 7
  · simp [e7, okIn] at h ⊢; omega
  by_cases e8 : i.op = 8
  · simp [e8, okIn] at h ⊢; omega
  by_cases e9 : i.op = 9
  · simp [e9, okIn] at h ⊢; omega
  by_cases e11 : i.op = 11
  · simp [e11, okIn] at h ⊢; omega
  by_cases e12 : i.op = 12
  · simp [e12, okIn] at h ⊢
  rw [if_neg e1, if_neg e2, if_neg e10, if_neg e3, if_neg e5, if_neg e7, if_neg e8, if_neg e9, if_neg e11, if_neg e12] at h
  simp [okIn] at h
  simp [okIn]
  omega
theorem sat_plain {p : LProg} {s : KSt} {r : List Int} {i : LIns} (hok : insOk p 8 i = true) (hs : Sok s) (hl : r.length = 10) (h64 : All64 r) (h : Sat s r) (hw : isWord i = false) (h7 : i.op ≠ 7) (h8 : i.op ≠ 8) (h9 : i.op ≠ 9) : Sat (oneK p s i) (plainR r i) := by
  obtain ⟨g1, g2, g10, g3, g5, g8, g9, g11, go, g7, gop⟩ := ins_regs hok
  have hw3 : i.op ≠ 3 ∧ i.op ≠ 4 ∧ i.op ≠ 5 ∧ i.op ≠ 6 := by
    simp [isWord, isPut, isTake] at hw; omega
  unfold oneK
  refine plainR_cases r i (fun r' => Sat _ r') (fun e => ?_) (fun e => ?_) (fun e => ?_) (fun e => ?_) (fun e => ?_) (fun n1 n2 n10 n11 n12 => ?_)
  · rw [if_pos e]; exact h.set hs.len hl _ (khas_of _)
  · rw [if_neg (by omega), if_pos e]; exact h.set hs.len hl _ (h.at_ (g2 e).2)
  · rw [if_neg (by omega), if_neg (by omega), if_pos e]; exact h.set hs.len hl _ (khas_sum (h.at_ (g10 e).2))
  · rw [if_neg (by omega), if_neg (by omega), if_neg (by omega), if_neg (by omega), if_pos e]
    refine ⟨fun _ => h.set hs.len hl _ (khas_zero _), fun hin => h.know hs.len _ ?_⟩
    refine khas_less' (h64 _) (h.at_ (g11 e).1) (khas_of (i.n - 1)) ?_
    unfold nbelow
    rw [u64_small (by have := (g11 e).2.1; omega) (by have := (g11 e).2.2; omega), u64_small hin.1 (by have := (g11 e).2.2; omega)]
    simp; omega
  · rw [if_neg (by omega), if_neg (by omega), if_neg (by omega), if_neg (by omega), if_neg (by omega), if_pos (by omega)]; exact h
  · rw [if_neg (by omega), if_neg (by omega), if_neg (by omega), if_neg (by omega), if_neg (by omega), if_neg (by omega)]
    have := go n1 n2 n10 hw3.1 hw3.2.1 hw3.2.2.1 hw3.2.2.2 h7 h8 h9 n11 n12
    exact h.set hs.len hl _ (khas_op (h.at_ this.2.1) (h.at_ this.2.2.1))
theorem nbelow_no {a b : Int} (h : u64 b ≤ u64 a) : nbelow a b = false := by unfold nbelow; simp; omega
/-- behind a test -/
theorem sat_branch {p : LProg} {s : KSt} {r : List Int} {i : LIns} (ha : okIn 8 i.a = true) (hb : okIn 8 i.b = true) (hs : Sok s) (hl : r.length = 10) (h64 : All64 r) (h : Sat s r) : Sat (branchK s i (nholds i.c (rg r i.a) (rg r i.b))) r := by
  have ka := h.at_ ha
  have kb := h.at_ hb
  generalize hc : nholds i.c (rg r i.a) (rg r i.b) = hold
  have t1 : tells1 i.c hold = true → nbelow (rg r i.b) (rg r i.a) = false := by
    intro t
    apply nbelow_no
    subst hc
    simp only [tells1, nholds] at t
    by_cases e1 : i.c = 1
    · simp [e1] at t; rw [t]; omega
    by_cases e2 : i.c = 2
    · simp [e2] at t; rw [t]; omega
    by_cases e3 : i.c = 3
    · simp [e3] at t; omega
    by_cases e4 : i.c = 4
    · simp [e4] at t; omega
    simp [e1, e2, e3, e4] at t
  have t2 : tells2 i.c hold = true → nbelow (rg r i.a) (rg r i.b) = false := by
    intro t
    apply nbelow_no
    subst hc
    simp only [tells2, nholds] at t
    by_cases e1 : i.c = 1
    · simp [e1] at t; rw [t]; omega
    by_cases e2 : i.c = 2
    · simp [e2] at t; rw [t]; omega
    by_cases e3 : i.c = 3
    · simp [e3] at t; omega
    by_cases e4 : i.c = 4
    · simp [e4] at t; omega
    simp [e1, e2, e3, e4] at t
  simp only [branchK]
  have h1 : Sat (if tells1 i.c hold then kset s i.a (kless (kg s i.a) (kg s i.b)) else s) r := by
    split
    · rename_i e
      exact h.know hs.len _ (khas_less' (h64 _) ka kb (t1 e))
    · exact h
  have hl1 : (if tells1 i.c hold then kset s i.a (kless (kg s i.a) (kg s i.b)) else s).length = 8 := by
    split <;> simp [kset, hs.len]
  split
  · rename_i e
    exact h1.know hl1 _ (khas_less' (h64 _) kb ka (t2 e))
  · exact h1
end Go.Proofs.Yteiknefajlocoaa
