/- Laid together from: Region, Form2. -/
import Derived.Test.YteiknefajlocoaaCheckSafeB1
import Derived.Deep.QuietTactic
import Derived.StillTail

/- A LAW OF OUR OWN for a statement whose order Go leaves open: whatever order is taken, one walk in the order of the text serves, if each operation of the statement's head yields one value in every world in which nothing old has turned (a call may lay new blocks), and what writes stands at its end. No program in sight. -/
namespace Go.Proofs.Yteiknefajlocoaa
open Go Go.RowKit

theorem filter_le {f g : Nat → Bool} {i : Nat} (h2 : g i = false) (h3 : ∀ j, j ≠ i → g j = f j) : ∀ l : List Nat, (l.filter g).length ≤ (l.filter f).length
  | [] => by simp
  | x :: l => by
    have ih := filter_le h2 h3 l
    rw [List.filter_cons, List.filter_cons]
    by_cases hx : x = i
    · rw [hx, h2]
      by_cases hf : f i = true
      · rw [if_neg (by simp), if_pos hf, List.length_cons]; omega
      · rw [if_neg (by simp), if_neg hf]; exact ih
    · rw [h3 x hx]
      by_cases hf : f x = true
      · rw [if_pos hf, if_pos hf, List.length_cons, List.length_cons]; omega
      · rw [if_neg hf, if_neg hf]; exact ih
theorem filter_lt {f g : Nat → Bool} {i : Nat} (h1 : f i = true) (h2 : g i = false) (h3 : ∀ j, j ≠ i → g j = f j) : ∀ l : List Nat, i ∈ l → (l.filter g).length < (l.filter f).length
  | [], h => by cases h
  | x :: l, h => by
    rw [List.filter_cons, List.filter_cons]
    by_cases hx : x = i
    · rw [hx, h2, h1, if_neg (by simp), if_pos rfl, List.length_cons]
      have := filter_le h2 h3 l
      omega
    · have ih := filter_lt h1 h2 h3 l (by rcases List.mem_cons.1 h with h | h; exact absurd h.symm hx; exact h)
      rw [h3 x hx]
      by_cases hf : f x = true
      · rw [if_pos hf, if_pos hf, List.length_cons, List.length_cons]; omega
      · rw [if_neg hf, if_neg hf]; exact ih

section
variable {P : Program} {ops : Array Oper} {Q : Exit → Act → World → Prop}

/-- An invariant of the operations taken so far, whatever their order. -/
theorem wpAny_inv (I : Array Bool → Act → World → Prop)
    (hstep : ∀ listed a w i, listed.size = ops.size → I listed a w → i ∈ Region.ready .any ops listed → wpOp P ops Q i (I (listed.setIfInBounds i true)) a w)
    (hend : ∀ listed a w, listed.size = ops.size → I listed a w → Region.ready .any ops listed = [] → Q .normal a w)
    (hfull : ∀ listed a w, listed.size = ops.size → I listed a w → (∀ i, i < ops.size → listed.getD i true = true) → Region.ready .any ops listed = []) :
    ∀ (fuel : Nat) (listed : Array Bool) (a : Act) (w : World), listed.size = ops.size → ((List.range ops.size).filter fun i => !listed.getD i true).length ≤ fuel → I listed a w → wpAny P .any ops Q fuel listed a w := by
  intro fuel
  induction fuel with
  | zero =>
    intro listed a w hs hf hI
    have hall : ∀ i, i < ops.size → listed.getD i true = true := fun i hi => by
      have h0 : (List.range ops.size).filter (fun i => !listed.getD i true) = [] := List.eq_nil_of_length_eq_zero (by omega)
      have := List.filter_eq_nil_iff.1 h0 i (List.mem_range.2 hi)
      simpa using this
    have hr := hfull listed a w hs hI hall
    exact ⟨hr, hend listed a w hs hI hr⟩
  | succ fuel ih =>
    intro listed a w hs hf hI
    refine ⟨fun hr => hend listed a w hs hI hr, fun i hi => ?_⟩
    refine wpOp_mono (fun a' w' h => ih _ a' w' (by simpa using hs) ?_ h) (hstep listed a w i hs hI hi)
    have hi' := mem_ready.1 hi
    have hil : i < ops.size := by
      obtain ⟨_, o, ho, _⟩ := hi'
      exact (Array.getElem?_eq_some_iff.1 ho).1
    have hsub := filter_lt (f := fun j => !listed.getD j true) (g := fun j => !(listed.setIfInBounds i true).getD j true) (i := i) (by simp only [hi'.1, Bool.not_false]) (by simp [hs, hil]) (fun j hj => by simp only [getD_set_ne true (fun e => hj e.symm)]) (List.range ops.size) (List.mem_range.2 hil)
    omega

/-! the frame, some operations having been taken -/
def dstOf (ops : Array Oper) (i : Nat) : Option Tmp := (ops[i]?).bind (·.dst)
def IsMix (ops : Array Oper) (a : Act) (vs : Nat → Value) (L : Nat → Prop) (a' : Act) : Prop :=
  a'.defers = a.defers ∧ a'.tmps.size = a.tmps.size ∧ (∀ i t, L i → dstOf ops i = some t → t < a.tmps.size → a'.tmps[t]? = some (vs i)) ∧ (∀ t, (∀ i, L i → dstOf ops i ≠ some t) → a'.tmps[t]? = a.tmps[t]?)
theorem mix_nil (a : Act) (vs : Nat → Value) : IsMix ops a vs (fun _ => False) a := ⟨rfl, rfl, fun _ _ h => h.elim, fun _ _ => rfl⟩
theorem mix_put {a a' : Act} {vs vs' : Nat → Value} {L : Nat → Prop} (h : IsMix ops a vs L a') (i : Nat) (hd : ∀ j, L j → ∀ t, dstOf ops j = some t → dstOf ops i ≠ some t) (hv : ∀ j, L j → vs' j = vs j) :
    IsMix ops a vs' (fun j => L j ∨ j = i) (a'.put (dstOf ops i) (vs' i)) := by
  obtain ⟨h1, h2, h3, h4⟩ := h
  cases hi : dstOf ops i with
  | none =>
    refine ⟨h1, h2, fun j t hj ht hlt => ?_, fun t ht => h4 t fun j hj => ht j (.inl hj)⟩
    rcases hj with hj | rfl
    · rw [hv j hj]; exact h3 j t hj ht hlt
    · rw [hi] at ht; cases ht
  | some d =>
    refine ⟨h1, by simpa [Act.put] using h2, fun j t hj ht hlt => ?_, fun t ht => ?_⟩
    · rcases hj with hj | rfl
      · have hne : d ≠ t := fun e => hd j hj t ht (by rw [hi, e])
        simp only [Act.put]
        rw [Array.getElem?_setIfInBounds_ne hne, hv j hj]
        exact h3 j t hj ht hlt
      · rw [hi] at ht
        obtain rfl := Option.some.inj ht
        simp only [Act.put]
        rw [Array.getElem?_setIfInBounds_self_of_lt (by rw [h2]; exact hlt)]
    · have hne : d ≠ t := fun e => ht i (.inr rfl) (by rw [hi, e])
      simp only [Act.put]
      rw [Array.getElem?_setIfInBounds_ne hne]
      exact h4 t fun j hj => ht j (.inl hj)
theorem mix_same {a a1 a2 : Act} {vs : Nat → Value} {L : Nat → Prop} (h : IsMix ops a vs L a1) (k : IsMix ops a vs L a2) : a1 = a2 := by
  obtain ⟨h1, h2, h3, h4⟩ := h
  obtain ⟨k1, k2, k3, k4⟩ := k
  obtain ⟨t1, d1⟩ := a1
  obtain ⟨t2, d2⟩ := a2
  have ht : t1 = t2 := by
    apply Array.ext_getElem?
    intro t
    by_cases hx : ∃ i, L i ∧ dstOf ops i = some t
    · obtain ⟨i, hi, hd⟩ := hx
      by_cases hl : t < a.tmps.size
      · exact (h3 i t hi hd hl).trans (k3 i t hi hd hl).symm
      · rw [Array.getElem?_eq_none (by rw [show t1.size = a.tmps.size from h2]; exact Nat.le_of_not_lt hl), Array.getElem?_eq_none (by rw [show t2.size = a.tmps.size from k2]; exact Nat.le_of_not_lt hl)]
    · have hn : ∀ i, L i → dstOf ops i ≠ some t := fun i hi e => hx ⟨i, hi, e⟩
      exact (h4 t hn).trans (k4 t hn).symm
  subst ht
  congr 1
  exact h1.trans k1.symm
theorem mix_congr {a a' : Act} {vs vs' : Nat → Value} {L L' : Nat → Prop} (h : IsMix ops a vs L a') (hL : ∀ i, L i ↔ L' i) (hv : ∀ i, L i → vs i = vs' i) : IsMix ops a vs' L' a' :=
  ⟨h.1, h.2.1, fun i t hi hd hl => by rw [← hv i ((hL i).2 hi)]; exact h.2.2.1 i t ((hL i).2 hi) hd hl, fun t ht => h.2.2.2 t fun i hi => ht i ((hL i).1 hi)⟩
/-- what an operation looks at is alike in two such frames -/
theorem mix_look {a a1 a2 : Act} {v1 v2 : Nat → Value} {L1 L2 : Nat → Prop} (h : IsMix ops a v1 L1 a1) (k : IsMix ops a v2 L2 a2) (t : Tmp)
    (hd : ∀ i, dstOf ops i = some t → L1 i ∧ L2 i ∧ v1 i = v2 i) : a1.tmps[t]? = a2.tmps[t]? := by
  by_cases hx : ∃ i, dstOf ops i = some t
  · obtain ⟨i, hi⟩ := hx
    obtain ⟨l1, l2, hv⟩ := hd i hi
    by_cases hl : t < a.tmps.size
    · rw [h.2.2.1 i t l1 hi hl, k.2.2.1 i t l2 hi hl, hv]
    · rw [Array.getElem?_eq_none (by rw [h.2.1]; exact Nat.le_of_not_lt hl), Array.getElem?_eq_none (by rw [k.2.1]; exact Nat.le_of_not_lt hl)]
  · rw [h.2.2.2 t fun i _ e => hx ⟨i, e⟩, k.2.2.2 t fun i _ e => hx ⟨i, e⟩]
theorem eval_alike {a1 a2 : Act} (o : Oper) (hs : ∀ cs b, o.op ≠ .select cs b) (h : ∀ t, t ∈ o.looksAt ops → a1.tmps[t]? = a2.tmps[t]?) : execOp a1.eval o = execOp a2.eval o :=
  execOp_congr o hs fun x hx => by
    cases x with
    | tmp t =>
      have ht : t ∈ o.looksAt ops := List.mem_append_left _ (List.mem_filterMap.2 ⟨.tmp t, by simpa using hx, rfl⟩)
      simp only [Act.eval, Array.getD_eq_getD_getElem?, h t ht]
    | _ => rfl
theorem wanted_alike {a1 a2 : Act} (o : Oper) (h : ∀ t, t ∈ o.looksAt ops → a1.tmps[t]? = a2.tmps[t]?) : Region.wanted o (yielded ops a1.tmps) = Region.wanted o (yielded ops a2.tmps) := by
  unfold Region.wanted
  cases hg : o.guard with
  | none => rfl
  | some gw =>
    obtain ⟨g, want⟩ := gw
    have hy : yielded ops a1.tmps g = yielded ops a2.tmps g := by
      unfold yielded
      cases ht : (ops[g]?).bind (·.dst) with
      | none => rfl
      | some t => simp only [Option.bind_some, h t (by simp [Oper.looksAt, hg, ht])]
    simp only [hy]

/-! the Bool that the order of the text serves -/
def headOk (ops : Array Oper) (n : Nat) (i0 : Nat) : Bool :=
  Region.noSelect ops && decide (n ≤ ops.size) &&
  ((List.range ops.size).all fun i => match ops[i]? with | some o => o.after.all fun e => !Region.binds .any e || decide (e.on < i) | none => true) &&
  ((List.range n).all fun i => match ops[i]? with
    | some o => (o.looksAt ops).all fun t => (List.range ops.size).all fun j => dstOf ops j != some t || (decide (j < i) && Region.waitsFor .any ops i j && j != i0)
    | none => true) &&
  ((List.range ops.size).all fun i => (List.range i).all fun j => (dstOf ops j).isNone || dstOf ops j != dstOf ops i) &&
  ((List.range ops.size).all fun t => decide (t < n) || (List.range t).all fun i => (List.range (t + 1)).any fun j => decide (i < j) && Region.waitsFor .any ops j i)

/-! the walk in the order of the text -/
/-- one value, the world as it was; or a call that hands that value back and turns nothing old -/
def calmUpon (P : Program) (w : World) (v : Value) : Result Next → Prop
  | .ok (.value u) w' => w' = w ∧ u = v
  | .ok .skip w' => w' = w ∧ v = undef
  | .ok (.enter f args) w' => w' = w ∧ Calls P f args w (fun e w'' => e = .returned v ∧ Ext w w'')
  | _ => False
/-- what is asked of operation number k: in every world in which nothing old has turned it is calm; number i0 lays a new block -/
def calmOne (P : Program) (ops : Array Oper) (W : World) (i0 k : Nat) (mk : Nat → Value) (T : TypeId) (cs : Array Value) (o : Oper) (a : Act) (v : Value) : Prop :=
  if k = i0 then o.guard = none ∧ v = undef ∧ (∀ w, Ext W w → (execOp a.eval o).run P w = .ok (.value (mk w.heap.size)) (w.alloc (.cells cs T)))
  else (Region.wanted o (yielded ops a.tmps) = true ∧ ∀ w, Ext W w → calmUpon P w v ((execOp a.eval o).run P w)) ∨ (Region.wanted o (yielded ops a.tmps) = false ∧ v = undef)
def calmAll (P : Program) (ops : Array Oper) (W : World) (i0 : Nat) (mk : Nat → Value) (T : TypeId) (cs : Array Value) (Q : Act → Prop) : Nat → List Oper → Act → Prop
  | _, [], a => Q a
  | k, o :: rest, a => ∃ v, calmOne P ops W i0 k mk T cs o a v ∧ calmAll P ops W i0 mk T cs Q (k + 1) rest (a.put o.dst v)

/-- the values, and the frames ahead of each operation, out of the walk -/
theorem calm_values {W : World} {i0 : Nat} {mk : Nat → Value} {T : TypeId} {cs : Array Value} {Qa : Act → Prop} {a0 : Act} : ∀ (l : List Oper) (k : Nat) (a : Act) (vs0 : Nat → Value),
    (∀ j, l[j]? = if j < l.length then ops[k + j]? else none) → (∀ i j, i < k + l.length → j < i → ∀ t, dstOf ops j = some t → dstOf ops i ≠ some t) →
    IsMix ops a0 vs0 (· < k) a → calmAll P ops W i0 mk T cs Qa k l a →
    ∃ vs, (∀ j, j < k → vs j = vs0 j) ∧ (∀ i, k ≤ i → i < k + l.length → ∃ o c, ops[i]? = some o ∧ IsMix ops a0 vs (· < i) c ∧ calmOne P ops W i0 i mk T cs o c (vs i)) ∧ ∃ c, IsMix ops a0 vs (· < k + l.length) c ∧ Qa c
  | [], k, a, vs0, _, _, hm, h => ⟨vs0, fun _ _ => rfl, fun i h1 h2 => by simp at h2; omega, a, by simpa using hm, h⟩
  | o :: l, k, a, vs0, hl, hd, hm, ⟨v, h1, h2⟩ => by
    have ho : ops[k]? = some o := by have := hl 0; simpa using this.symm
    have hdst : o.dst = dstOf ops k := by simp [dstOf, ho]
    have hm' : IsMix ops a0 (fun i => if i = k then v else vs0 i) (· < k + 1) (a.put o.dst v) := by
      have := mix_put (vs' := fun i => if i = k then v else vs0 i) hm k (fun j hj t ht => hd k j (by simp) hj t ht) (fun j hj => by simp; intro e; omega)
      simp only [if_true] at this
      rw [hdst]
      exact mix_congr this (fun i => by omega) (fun _ _ => rfl)
    obtain ⟨vs, e1, e2, c, e3, e4⟩ := calm_values l (k + 1) (a.put o.dst v) (fun i => if i = k then v else vs0 i)
      (fun j => by have := hl (j + 1); simp only [List.getElem?_cons_succ, List.length_cons] at this; rw [this, show k + (j + 1) = k + 1 + j by omega]; by_cases hj : j < l.length <;> simp [hj])
      (fun i j hi hj => hd i j (by simp; omega) hj) hm' h2
    refine ⟨vs, fun j hj => by rw [e1 j (by omega)]; simp; intro e; omega, fun i hi1 hi2 => ?_, c, by rw [List.length_cons, show k + (l.length + 1) = k + 1 + l.length by omega]; exact e3, e4⟩
    by_cases hik : i = k
    · subst hik
      refine ⟨o, a, ho, mix_congr hm (fun _ => Iff.rfl) (fun j hj => by rw [e1 j (by omega)]; simp; intro e; omega), ?_⟩
      have : vs i = v := by rw [e1 i (by omega)]; simp
      rw [this]; exact h1
    · exact e2 i (by omega) (by simp at hi2; omega)

def Closed (ops : Array Oper) (listed : Array Bool) : Prop := ∀ j oj, ops[j]? = some oj → listed.getD j false = true → ∀ e ∈ oj.after, Region.binds .any e = true → listed.getD e.on false = true
theorem Closed.step {listed : Array Bool} (h : Closed ops listed) {i : Nat} (hi : i ∈ Region.ready .any ops listed) : Closed ops (listed.setIfInBounds i true) := by
  intro j oj hj hl e he hb
  obtain ⟨_, o, ho, hall⟩ := mem_ready.1 hi
  refine getD_set_true ?_
  by_cases hji : j = i
  · subst hji
    rw [ho] at hj
    obtain rfl := Option.some.inj hj
    exact hall e he hb
  · rw [getD_set_ne false (fun e => hji e.symm)] at hl
    exact h j oj hj hl e he hb
/-- when an operation of the tail may come up, all ahead of it have been taken -/
theorem sunk {n i0 : Nat} (hB : headOk ops n i0 = true) {listed : Array Bool} (hc : Closed ops listed) {t : Nat} (ht : t ∈ Region.ready .any ops listed) (hn : n ≤ t) : ∀ d i, t - i ≤ d → i < t → listed.getD i false = true := by
  simp only [headOk, Bool.and_eq_true] at hB
  obtain ⟨_, hs⟩ := hB
  obtain ⟨_, ot, hot, hall⟩ := mem_ready.1 ht
  have htl : t < ops.size := (Array.getElem?_eq_some_iff.1 hot).1
  have hst := List.all_eq_true.1 hs t (List.mem_range.2 htl)
  rw [decide_eq_false (by omega), Bool.false_or] at hst
  intro d
  induction d with
  | zero => intro i h1 h2; omega
  | succ d ih =>
    intro i h1 h2
    obtain ⟨j, hj, hw⟩ := List.any_eq_true.1 (List.all_eq_true.1 hst i (List.mem_range.2 h2))
    simp only [Bool.and_eq_true, decide_eq_true_eq] at hw
    have hjt := List.mem_range.1 hj
    obtain ⟨oj, hoj, e, he, hb, heq⟩ := Region.waitsFor_spec hw.2
    by_cases hjt' : j = t
    · subst hjt'
      rw [hot] at hoj
      obtain rfl := Option.some.inj hoj
      rw [← heq]
      exact hall e he hb
    · have := ih j (by omega) (by omega)
      rw [← heq]
      exact hc j oj hoj this e he hb
theorem mix_over {a c : Act} {vs : Nat → Value} {L : Nat → Prop} (h : IsMix ops a vs L c) (i0 : Nat) (x : Value) (hL : L i0) (hd : ∀ j, L j → j ≠ i0 → ∀ t, dstOf ops j = some t → dstOf ops i0 ≠ some t) :
    IsMix ops a (fun i => if i = i0 then x else vs i) L (c.put (dstOf ops i0) x) := by
  obtain ⟨h1, h2, h3, h4⟩ := h
  cases hi : dstOf ops i0 with
  | none =>
    refine ⟨h1, h2, fun j t hj ht hlt => ?_, h4⟩
    have hne : j ≠ i0 := fun e => by subst e; rw [hi] at ht; cases ht
    simp only [if_neg hne]
    exact h3 j t hj ht hlt
  | some d =>
    refine ⟨h1, by simpa [Act.put] using h2, fun j t hj ht hlt => ?_, fun t ht => ?_⟩
    · by_cases hji : j = i0
      · subst hji
        rw [hi] at ht
        obtain rfl := Option.some.inj ht
        simp only [Act.put, if_true]
        rw [Array.getElem?_setIfInBounds_self_of_lt (by rw [h2]; exact hlt)]
      · have hne : d ≠ t := fun e => hd j hj hji t ht (by rw [hi, e])
        simp only [Act.put, if_neg hji]
        rw [Array.getElem?_setIfInBounds_ne hne]
        exact h3 j t hj ht hlt
    · have hne : d ≠ t := fun e => ht i0 hL (by rw [hi, e])
      simp only [Act.put]
      rw [Array.getElem?_setIfInBounds_ne hne]
      exact h4 t ht

/-- what an invariant of the orders says -/
def Taken (P : Program) (Q : Exit → Act → World → Prop) (l : List Oper) (n i0 : Nat) (W : World) (mk : Nat → Value) (T : TypeId) (cs : Array Value) (vs : Nat → Value) (a : Act) (listed : Array Bool) (a' : Act) (w : World) : Prop :=
  Closed l.toArray listed ∧
  ((∀ t, n ≤ t → t < l.length → listed.getD t false = false) ∧ Ext W w ∧ (∃ k, (i0 < n → listed.getD i0 false = true → W.heap.size ≤ k ∧ Blk w k T cs) ∧ IsMix l.toArray a (fun i => if i = i0 then mk k else vs i) (fun i => i < n ∧ listed.getD i false = true) a') ∨
  ∃ t, n ≤ t ∧ t ≤ l.length ∧ (∀ i, i < t → listed.getD i false = true) ∧ (∀ i, t ≤ i → i < l.length → listed.getD i false = false) ∧ wpList P l.toArray Q (l.drop t) a' w)

section
variable {l : List Oper} {n i0 : Nat} {W : World} {mk : Nat → Value} {T : TypeId} {cs : Array Value} {vs : Nat → Value} {a : Act}
theorem dst_apart (hB : headOk l.toArray n i0 = true) {i j : Nat} (hi : i < l.length) (hj : j < i) : ∀ t, dstOf l.toArray j = some t → dstOf l.toArray i ≠ some t := by
  simp only [headOk, Bool.and_eq_true] at hB
  have h := List.all_eq_true.1 (List.all_eq_true.1 hB.1.2 i (List.mem_range.2 (by simpa using hi))) j (List.mem_range.2 hj)
  intro t ht e
  rw [ht, e] at h
  simp at h
theorem dst_apart' (hB : headOk l.toArray n i0 = true) {i j : Nat} (hi : i < l.length) (hj : j < l.length) (hne : j ≠ i) : ∀ t, dstOf l.toArray j = some t → dstOf l.toArray i ≠ some t := by
  intro t ht e
  rcases Nat.lt_or_gt_of_ne hne with h | h
  · exact dst_apart hB hi h t ht e
  · exact dst_apart hB hj h t e ht
theorem looked (hB : headOk l.toArray n i0 = true) {i : Nat} {o : Oper} (ho : l.toArray[i]? = some o) (hi : i < n) {t : Tmp} (ht : t ∈ o.looksAt l.toArray) {j : Nat} (hj : dstOf l.toArray j = some t) :
    j < i ∧ Region.waitsFor .any l.toArray i j = true ∧ j ≠ i0 := by
  simp only [headOk, Bool.and_eq_true] at hB
  have h := List.all_eq_true.1 hB.1.1.2 i (List.mem_range.2 hi)
  rw [ho] at h
  have hjl : j < l.toArray.size := by
    unfold dstOf at hj
    cases hx : l.toArray[j]? with
    | none => rw [hx] at hj; cases hj
    | some oj => exact (Array.getElem?_eq_some_iff.1 hx).1
  have h2 := List.all_eq_true.1 (List.all_eq_true.1 h t ht) j (List.mem_range.2 hjl)
  rw [hj] at h2
  simp at h2
  exact ⟨h2.1.1, h2.1.2, h2.2⟩
theorem set_listed {listed : Array Bool} {i : Nat} (hi : i < listed.size) (j : Nat) : (listed.setIfInBounds i true).getD j false = true ↔ listed.getD j false = true ∨ j = i := by
  by_cases h : j = i
  · subst h; simp [hi]
  · rw [getD_set_ne false (fun e => h e.symm)]; simp [h]

/-- a step of the head -/
theorem taken_head (hB : headOk l.toArray n i0 = true)
    (hv : ∀ i, i < n → ∃ o c, l.toArray[i]? = some o ∧ IsMix l.toArray a vs (· < i) c ∧ calmOne P l.toArray W i0 i mk T cs o c (vs i))
    {listed : Array Bool} {a' : Act} {w : World} {i : Nat} (hs : listed.size = l.toArray.size) (hc : Closed l.toArray listed) (hi : i ∈ Region.ready .any l.toArray listed) (hin : i < n)
    (h : (∀ t, n ≤ t → t < l.length → listed.getD t false = false) ∧ Ext W w ∧ (∃ k, (i0 < n → listed.getD i0 false = true → W.heap.size ≤ k ∧ Blk w k T cs) ∧ IsMix l.toArray a (fun i => if i = i0 then mk k else vs i) (fun i => i < n ∧ listed.getD i false = true) a')) :
    wpOp P l.toArray Q i (Taken P Q l n i0 W mk T cs vs a (listed.setIfInBounds i true)) a' w := by
  obtain ⟨htail, hE, k, hk, hm⟩ := h
  obtain ⟨o, c, ho, hmc, hone⟩ := hv i hin
  obtain ⟨hnl, o', ho', hall⟩ := mem_ready.1 hi
  rw [ho] at ho'
  obtain rfl := Option.some.inj ho'
  have hil : i < l.toArray.size := (Array.getElem?_eq_some_iff.1 ho).1
  have hil' : i < l.length := by simpa using hil
  have hnl' : listed.getD i false = false := by
    have hlt : i < listed.size := by omega
    simp [hlt] at hnl ⊢; exact hnl
  have hsel : Region.noSelect l.toArray = true := by
    simp only [headOk, Bool.and_eq_true] at hB; exact hB.1.1.1.1.1
  have look : ∀ t, t ∈ o.looksAt l.toArray → a'.tmps[t]? = c.tmps[t]? := fun t ht => mix_look hm hmc t fun j hj => by
    obtain ⟨h1, h2, h3⟩ := looked hB ho hin ht hj
    obtain ⟨oj, hoj, e, he, hb, heq⟩ := Region.waitsFor_spec h2
    rw [ho] at hoj
    obtain rfl := Option.some.inj hoj
    have := hall e he hb
    rw [heq] at this
    exact ⟨⟨by omega, this⟩, h1, by rw [if_neg h3]⟩
  have hex := eval_alike (ops := l.toArray) o (fun cs b => Region.noSelect_spec hsel i o cs b ho) look
  have hwa := wanted_alike (ops := l.toArray) o look
  have hdst : o.dst = dstOf l.toArray i := by simp [dstOf, ho]
  have next : ∀ (k' : Nat) (v : Value) (w' : World), Ext W w' → (if i = i0 then mk k' else vs i) = v → (∀ j, j < n → listed.getD j false = true → (if j = i0 then mk k' else vs j) = (if j = i0 then mk k else vs j)) →
      (i0 < n → (listed.setIfInBounds i true).getD i0 false = true → W.heap.size ≤ k' ∧ Blk w' k' T cs) → Taken P Q l n i0 W mk T cs vs a (listed.setIfInBounds i true) (a'.put o.dst v) w' := by
    intro k' v w' hE' hv' hsame hblk
    refine ⟨hc.step hi, .inl ⟨fun t h1 h2 => by rw [getD_set_ne false (by omega)]; exact htail t h1 h2, hE', k', hblk, ?_⟩⟩
    have hp := mix_put (vs' := fun i => if i = i0 then mk k' else vs i) hm i (fun j hj t ht => by
      have hjl : j < l.length := by
        have := hj.1
        simp only [headOk, Bool.and_eq_true, decide_eq_true_eq] at hB
        have := hB.1.1.1.1.2
        simp at this
        omega
      exact dst_apart' hB hil' hjl (fun e => by subst e; rw [hj.2] at hnl'; cases hnl') t ht) (fun j hj => hsame j hj.1 hj.2)
    rw [← hv', hdst]
    refine mix_congr hp (fun j => ?_) (fun _ _ => rfl)
    rw [set_listed (by omega)]
    constructor
    · rintro (h | h)
      · exact ⟨h.1, .inl h.2⟩
      · exact ⟨by omega, .inr h⟩
    · rintro ⟨h1, h2 | h2⟩
      · exact .inl ⟨h1, h2⟩
      · exact .inr h2
  unfold wpOp
  rw [ho]
  simp only []
  unfold calmOne at hone
  by_cases h0 : i = i0
  · rw [if_pos h0] at hone
    obtain ⟨hg, _, hrun⟩ := hone
    have hw : Region.wanted o (yielded l.toArray a'.tmps) = true := by simp [Region.wanted, hg]
    rw [if_pos hw]
    left
    unfold Oper.wp
    rw [hex, hrun w hE]
    simp only [Oper.upon]
    refine next w.heap.size _ _ (hE.alloc _) (by rw [if_pos h0]) (fun j h1 h2 => ?_) (fun _ _ => ⟨hE.size, Blk.new _ _ _⟩)
    have hne : j ≠ i0 := fun e => by subst e; subst h0; rw [h2] at hnl'; cases hnl'
    rw [if_neg hne, if_neg hne]
  · rw [if_neg h0] at hone
    have keep : ∀ w', Ext w w' → (i0 < n → (listed.setIfInBounds i true).getD i0 false = true → W.heap.size ≤ k ∧ Blk w' k T cs) := fun w' hx h1 h2 => by
      rw [set_listed (by omega)] at h2
      rcases h2 with h2 | h2
      · exact ⟨(hk h1 h2).1, (hk h1 h2).2.ext hx⟩
      · exact absurd h2.symm h0
    rcases hone with ⟨hw, hrun⟩ | ⟨hw, hv0⟩
    · rw [hwa, if_pos hw]
      left
      have hr := hrun w hE
      unfold Oper.wp
      rw [hex]
      generalize (execOp c.eval o).run P w = r at hr
      cases r with
      | ok nx w' =>
        cases nx <;> simp only [calmUpon] at hr <;> simp only [Oper.upon]
        case value u =>
          obtain ⟨rfl, rfl⟩ := hr
          exact next k _ _ hE (by rw [if_neg h0]) (fun _ _ _ => rfl) (keep _ (Ext.refl _))
        case skip =>
          obtain ⟨rfl, hv'⟩ := hr
          exact next k _ _ hE (by rw [if_neg h0, hv']) (fun _ _ _ => rfl) (keep _ (Ext.refl _))
        case enter f args =>
          obtain ⟨rfl, hcall⟩ := hr
          exact hcall.mono fun e w'' ⟨he, hx⟩ => by
            subst he
            exact next k _ _ (hE.trans hx) (by rw [if_neg h0]) (fun _ _ _ => rfl) (keep _ hx)
      | halt x w' => simp only [calmUpon] at hr
    · rw [hwa, hw]
      simp only [Bool.false_eq_true, if_false]
      exact next k _ _ hE (by rw [if_neg h0, hv0]) (fun _ _ _ => rfl) (keep _ (Ext.refl _))

theorem range_first {p : Nat → Bool} {m : Nat} (h : ∃ i, i < m ∧ p i = true) : ∃ i, i < m ∧ p i = true ∧ ∀ j, j < i → p j = false := by
  induction m with
  | zero => obtain ⟨i, hi, _⟩ := h; omega
  | succ m ih =>
    by_cases hx : ∃ i, i < m ∧ p i = true
    · obtain ⟨i, h1, h2, h3⟩ := ih hx
      exact ⟨i, by omega, h2, h3⟩
    · obtain ⟨i, h1, h2⟩ := h
      refine ⟨i, h1, h2, fun j hj => ?_⟩
      cases hp : p j
      · rfl
      · exact absurd ⟨j, by omega, hp⟩ hx
/-- where nothing may come up, all has been taken -/
theorem all_taken (hB : headOk l.toArray n i0 = true) {listed : Array Bool} (hs : listed.size = l.toArray.size) (hr : Region.ready .any l.toArray listed = []) : ∀ i, i < l.length → listed.getD i false = true := by
  intro i hi
  cases hl : listed.getD i false
  · exfalso
    obtain ⟨m, h1, h2, h3⟩ := range_first (p := fun i => !listed.getD i false) (m := l.length) ⟨i, hi, by simpa using hl⟩
    have hm : m ∈ Region.ready .any l.toArray listed := by
      refine mem_ready.2 ⟨?_, l[m], by simp [h1], fun e he hb => ?_⟩
      · have hlt : m < listed.size := by simp [hs]; exact h1
        simp [hlt] at h2 ⊢; exact h2
      · simp only [headOk, Bool.and_eq_true] at hB
        have h := List.all_eq_true.1 hB.1.1.1.2 m (List.mem_range.2 (by simpa using h1))
        have ho : l.toArray[m]? = some l[m] := by simp [h1]
        rw [ho] at h
        have := (Array.all_eq_true'.1 h) e he
        rw [hb] at this
        simp at this
        have := h3 e.on this
        simpa using this
    rw [hr] at hm
    cases hm
  · rfl

/-- ONE WALK IN THE ORDER OF THE TEXT SERVES EVERY ORDER: n operations, calm but for number i0, which lays a new block; behind them, one after the other, the rest. -/
theorem region_free {id : Nat} (n i0 : Nat) (hm : P.follows .mixedOrders = true) (hB : headOk l.toArray n i0 = true) (mk : Nat → Value) (T : TypeId) (cs : Array Value)
    (h : calmAll P l.toArray W i0 mk T cs (fun a' => ∀ k w', (i0 < n → W.heap.size ≤ k ∧ Blk w' k T cs) → Ext W w' → wpList P l.toArray Q (l.drop n) (if i0 < n then a'.put (dstOf l.toArray i0) (mk k) else a') w') 0 (l.take n) a) :
    (Code.region id l.toArray true).wp P Q a W := by
  have hnl : n ≤ l.length := by
    simp only [headOk, Bool.and_eq_true, decide_eq_true_eq] at hB
    simpa using hB.1.1.1.1.2
  have htk : (l.take n).length = n := by simp; omega
  obtain ⟨vs, _, hv, c, hcm, hQ⟩ := calm_values (ops := l.toArray) (a0 := a) (l.take n) 0 a (fun _ => undef)
    (fun j => by rw [htk, List.getElem?_take]; by_cases hj : j < n <;> simp [hj]) (fun i j hi hj => dst_apart hB (by omega) hj) (mix_congr (mix_nil a (fun _ => undef)) (fun _ => by simp) (fun _ h => h.elim)) h
  simp only [Nat.zero_add, htk, Nat.zero_le, true_imp_iff] at hv hcm
  refine wp_region_any hm ?_
  refine wpAny_inv (Taken P Q l n i0 W mk T cs vs a) ?_ ?_ ?_ _ _ _ _ (by simp) (by
    refine Nat.le_trans (List.length_filter_le _ _) (by simp)) ?_
  · -- a step
    intro listed a' w i hs hI hi
    obtain ⟨hc, hI⟩ := hI
    have hil : i < l.length := by
      obtain ⟨_, o, ho, _⟩ := mem_ready.1 hi
      simpa using (Array.getElem?_eq_some_iff.1 ho).1
    have hnl' : listed.getD i false = false := by
      have h0 := (mem_ready.1 hi).1
      have hlt : i < listed.size := by simp [hs]; exact hil
      simp [hlt] at h0 ⊢; exact h0
    by_cases hin : i < n
    · rcases hI with hI | ⟨t, ht1, ht2, ht3, _, _⟩
      · exact taken_head hB hv hs hc hi hin hI
      · exact absurd (ht3 i (by omega)) (by rw [hnl']; simp)
    · -- the tail: all ahead has been taken
      have hall := sunk hB hc hi (by omega)
      have htail : ∃ t, t = i ∧ n ≤ t ∧ (∀ j, t ≤ j → j < l.length → listed.getD j false = false) ∧ wpList P l.toArray Q (l.drop t) a' w := by
        rcases hI with ⟨hI1, hE, k, hk, hmx⟩ | ⟨t, ht1, ht2, ht3, ht4, ht5⟩
        · have hi' : i = n := by
            rcases Nat.lt_or_ge n i with h1 | h1
            · have := hI1 n (Nat.le_refl _) (by omega)
              rw [hall _ n (Nat.le_refl _) h1] at this
              cases this
            · omega
          refine ⟨n, hi'.symm, Nat.le_refl _, hI1, ?_⟩
          have hall' : ∀ j, j < n → listed.getD j false = true := fun j hj => hall _ j (Nat.le_refl _) (by omega)
          have hfin := hQ k w (fun h0 => hk h0 (hall' i0 h0)) hE
          by_cases h0 : i0 < n
          · rw [if_pos h0] at hfin
            have hover := mix_over hcm i0 (mk k) h0 (fun j hj hne => dst_apart' hB (by omega) (by omega) hne)
            have he := mix_same (mix_congr hmx (L' := (· < n)) (vs' := fun i => if i = i0 then mk k else vs i) (fun j => ⟨fun h => h.1, fun h => ⟨h, hall' j h⟩⟩) (fun _ _ => rfl)) hover
            rw [he]; exact hfin
          · rw [if_neg h0] at hfin
            have he := mix_same (mix_congr hmx (L' := (· < n)) (vs' := vs) (fun j => ⟨fun h => h.1, fun h => ⟨h, hall' j h⟩⟩) (fun j hj => if_neg (fun (e : j = i0) => h0 (by rw [← e]; exact hj.1)))) hcm
            rw [he]; exact hfin
        · have hti : t = i := by
            rcases Nat.lt_trichotomy t i with h1 | h1 | h1
            · have := ht4 t (Nat.le_refl _) (by omega)
              rw [hall _ t (Nat.le_refl _) h1] at this
              cases this
            · exact h1
            · rw [ht3 i h1] at hnl'; cases hnl'
          exact ⟨t, hti, ht1, ht4, ht5⟩
      obtain ⟨t, rfl, hnt, ht4, ht5⟩ := htail
      have hdrop : l.drop t = l[t] :: l.drop (t + 1) := (List.drop_eq_getElem_cons hil)
      have ho : l.toArray[t]? = some l[t] := by simp [hil]
      rw [hdrop] at ht5
      unfold wpOp
      rw [ho]
      simp only [wpList] at ht5 ⊢
      have fin : ∀ a'' w'', wpList P l.toArray Q (l.drop (t + 1)) a'' w'' → Taken P Q l n i0 W mk T cs vs a (listed.setIfInBounds t true) a'' w'' := fun a'' w'' hw =>
        ⟨hc.step hi, .inr ⟨t + 1, by omega, by omega, fun j hj => (set_listed (by simp [hs]; exact hil) j).2 (by
          rcases Nat.lt_or_ge j t with h1 | h1
          · exact .inl (hall _ j (Nat.le_refl _) h1)
          · exact .inr (by omega)), fun j h1 h2 => by rw [getD_set_ne false (by omega)]; exact ht4 j (by omega) h2, hw⟩⟩
      split at ht5
      · rename_i hw
        rw [if_pos hw]
        exact ht5.imp (Oper.wp_mono fin) (fun h => h)
      · rename_i hw
        rw [if_neg hw]
        exact fin _ _ ht5
  · -- the end
    intro listed a' w hs hI hr
    have hall := all_taken hB hs hr
    obtain ⟨_, ⟨hI1, hE, k, hk, hmx⟩ | ⟨t, ht1, ht2, ht3, ht4, ht5⟩⟩ := hI
    · have hn : n = l.length := by
        rcases Nat.lt_or_ge n l.length with h1 | h1
        · have := hI1 n (Nat.le_refl _) h1
          rw [hall n h1] at this
          cases this
        · omega
      have hfin := hQ k w (fun h0 => hk h0 (hall i0 (by omega))) hE
      rw [hn, List.drop_length] at hfin
      rw [← hn] at hfin
      by_cases h0 : i0 < n
      · rw [if_pos h0] at hfin
        have hover := mix_over hcm i0 (mk k) h0 (fun j hj hne => dst_apart' hB (by omega) (by omega) hne)
        have he := mix_same (mix_congr hmx (L' := (· < n)) (vs' := fun i => if i = i0 then mk k else vs i) (fun j => ⟨fun h => h.1, fun h => ⟨h, hall j (by omega)⟩⟩) (fun _ _ => rfl)) hover
        rw [he]; exact hfin
      · rw [if_neg h0] at hfin
        have he := mix_same (mix_congr hmx (L' := (· < n)) (vs' := vs) (fun j => ⟨fun h => h.1, fun h => ⟨h, hall j (by omega)⟩⟩) (fun j hj => if_neg (fun (e : j = i0) => h0 (by rw [← e]; exact hj.1)))) hcm
        rw [he]; exact hfin
    · have htl : t = l.length := by
        rcases Nat.lt_or_ge t l.length with h1 | h1
        · have := ht4 t (Nat.le_refl _) h1
          rw [hall t h1] at this
          cases this
        · omega
      rw [htl, List.drop_length] at ht5
      exact ht5
  · -- nothing is left
    intro listed a' w hs _ hall
    rw [List.eq_nil_iff_forall_not_mem]
    intro i hi
    obtain ⟨h0, o, ho, _⟩ := mem_ready.1 hi
    rw [hall i (Array.getElem?_eq_some_iff.1 ho).1] at h0
    cases h0
  · -- the beginning
    refine ⟨fun j oj hj hl => ?_, .inl ⟨fun t _ h2 => by simp [h2], (Ext.refl W).drew, 0, fun _ h2 => ?_, ?_⟩⟩
    · by_cases hj' : j < l.length <;> simp [hj'] at hl
    · by_cases hj' : i0 < l.length <;> simp [hj'] at h2
    · refine mix_congr (mix_nil a (fun _ => undef)) (fun j => ⟨fun h => h.elim, fun h => ?_⟩) (fun _ h => h.elim)
      have := h.2
      by_cases hj' : j < l.length <;> simp [hj'] at this

/-- the same where no operation of the head lays a block -/
theorem region_calm {id : Nat} (n : Nat) (hm : P.follows .mixedOrders = true) (hB : headOk l.toArray n n = true)
    (h : calmAll P l.toArray W n (fun _ => undef) 0 #[] (fun a' => ∀ w', Ext W w' → wpList P l.toArray Q (l.drop n) a' w') 0 (l.take n) a) :
    (Code.region id l.toArray true).wp P Q a W := by
  refine region_free n n hm hB (fun _ => undef) 0 #[] ?_
  have key : ∀ (l' : List Oper) (k : Nat) (a : Act) (Q1 Q2 : Act → Prop), (∀ a, Q1 a → Q2 a) → calmAll P l.toArray W n (fun _ => undef) 0 #[] Q1 k l' a → calmAll P l.toArray W n (fun _ => undef) 0 #[] Q2 k l' a := by
    intro l'
    induction l' with
    | nil => intro k a Q1 Q2 hq h; exact hq a h
    | cons o l' ih => intro k a Q1 Q2 hq h; obtain ⟨v, h1, h2⟩ := h; exact ⟨v, h1, ih _ _ _ _ hq h2⟩
  refine key _ _ _ _ _ (fun a' ha k w' _ hE => ?_) h
  rw [if_neg (Nat.lt_irrefl _)]
  exact ha w' hE

theorem calmAll_mono {i0 : Nat} {T : TypeId} {cs : Array Value} : ∀ (l' : List Oper) (k : Nat) (a : Act) (Q1 Q2 : Act → Prop), (∀ a, Q1 a → Q2 a) → calmAll P ops W i0 mk T cs Q1 k l' a → calmAll P ops W i0 mk T cs Q2 k l' a := by
  intro l'
  induction l' with
  | nil => intro k a Q1 Q2 hq h; exact hq a h
  | cons o l' ih => intro k a Q1 Q2 hq h; obtain ⟨v, h1, h2⟩ := h; exact ⟨v, h1, ih _ _ _ _ hq h2⟩
/-- the same where one operation of the head lays a block, whose temporary is d -/
theorem region_fresh {id : Nat} (n i0 : Nat) (d : Option Tmp) (h0 : i0 < n) (hd : dstOf l.toArray i0 = d) (hm : P.follows .mixedOrders = true) (hB : headOk l.toArray n i0 = true) (mk : Nat → Value) (T : TypeId) (cs : Array Value)
    (h : calmAll P l.toArray W i0 mk T cs (fun a' => ∀ k w', W.heap.size ≤ k → Blk w' k T cs → Ext W w' → wpList P l.toArray Q (l.drop n) (a'.put d (mk k)) w') 0 (l.take n) a) :
    (Code.region id l.toArray true).wp P Q a W := by
  refine region_free n i0 hm hB mk T cs (calmAll_mono _ _ _ _ _ (fun a' ha k w' hk hE => ?_) h)
  rw [if_pos h0, hd]
  exact ha k w' (hk h0).1 (hk h0).2 hE

/-! steps of the walk: by 'apply Exists.intro' the value is left to be found -/
section
variable {Qa : Act → Prop} {k i0 : Nat} {T : TypeId} {cs : Array Value} {o : Oper} {rest : List Oper}
theorem calm_nil (h : Qa a) : calmAll P ops W i0 mk T cs Qa k [] a := h
/-- an operation that yields a value and leaves the world alone -/
theorem calm_value (hk : k ≠ i0) (hw : Region.wanted o (yielded ops a.tmps) = true)
    (h : ∃ v, (∀ w, Ext W w → (execOp a.eval o).run P w = .ok (.value v) w) ∧ calmAll P ops W i0 mk T cs Qa (k + 1) rest (a.put o.dst v)) : calmAll P ops W i0 mk T cs Qa k (o :: rest) a := by
  obtain ⟨v, hr, h⟩ := h
  exact ⟨v, by unfold calmOne; rw [if_neg hk]; exact .inl ⟨hw, fun w hE => by rw [hr w hE]; exact ⟨rfl, rfl⟩⟩, h⟩
/-- a call that turns nothing old -/
theorem calm_call (hk : k ≠ i0) (hw : Region.wanted o (yielded ops a.tmps) = true)
    (h : ∃ v, (∀ w, Ext W w → calmUpon P w v ((execOp a.eval o).run P w)) ∧ calmAll P ops W i0 mk T cs Qa (k + 1) rest (a.put o.dst v)) : calmAll P ops W i0 mk T cs Qa k (o :: rest) a := by
  obtain ⟨v, hr, h⟩ := h
  exact ⟨v, by unfold calmOne; rw [if_neg hk]; exact .inl ⟨hw, hr⟩, h⟩
/-- an operation whose guard is not met -/
theorem calm_skip (hk : k ≠ i0) (hw : Region.wanted o (yielded ops a.tmps) = false)
    (h : calmAll P ops W i0 mk T cs Qa (k + 1) rest (a.put o.dst undef)) : calmAll P ops W i0 mk T cs Qa k (o :: rest) a :=
  ⟨undef, by unfold calmOne; rw [if_neg hk]; exact .inr ⟨hw, rfl⟩, h⟩
/-- the operation that lays the new block -/
theorem calm_fresh (hk : k = i0) (hg : o.guard = none)
    (hr : ∀ w, Ext W w → (execOp a.eval o).run P w = .ok (.value (mk w.heap.size)) (w.alloc (.cells cs T))) (h : calmAll P ops W i0 mk T cs Qa (k + 1) rest (a.put o.dst undef)) : calmAll P ops W i0 mk T cs Qa k (o :: rest) a :=
  ⟨undef, by unfold calmOne; rw [if_pos hk]; exact ⟨hg, rfl, hr⟩, h⟩
theorem calm_enter {w : World} {v : Value} {f : FuncId} {args : Array Value} (h : Calls P f args w fun e w' => e = .returned v ∧ Ext w w') : calmUpon P w v (.ok (.enter f args) w) := ⟨rfl, h⟩
theorem calm_enter_same {w : World} {v : Value} {f : FuncId} {args : Array Value} (h : Calls P f args w fun e w' => e = .returned v ∧ w = w') : calmUpon P w v (.ok (.enter f args) w) :=
  ⟨rfl, h.mono fun _ _ ⟨h1, h2⟩ => ⟨h1, by subst h2; exact Ext.refl _⟩⟩
end
end
end
end Go.Proofs.Yteiknefajlocoaa
/- Walks of the looker. -/
namespace Go.Proofs.Yteiknefajlocoaa
open Go.ChangeShapes Go.WideShapes Go.ChangeAt Go.RowKit

theorem index_ints {oa : Option Addr} {n b o cap : Nat} (h : 0 < n → oa = some ⟨b, o, none⟩) (W : World) (i : Int) (h0 : 0 ≤ i) (h1 : i < n) :
    (Instr.indexAt 71 (.slice oa n cap) (.int .i64 i)).run Try.prog W = .ok (.pointer (some ⟨b, o + i.toNat, none⟩)) W := by
  obtain rfl := h (by omega)
  have hs : (Try.prog.info? 2).map (·.size) = some 1 := by kernel_rfl
  simp [Instr.indexAt, run_underlying Try.underlying71, asIntOf, h0, h1]
  exact addr_add b o _

theorem take_and {α : Type} (f : α → Bool) (l : List α) (k : Nat) (d : α) (hk : k < l.length) (ok : Bool) : (ok && (l.take (k + 1)).all f) = (ok && (l.take k).all f && f (l.getD k d)) := by
  rw [List.take_succ_eq_append_getElem hk, List.all_append]
  simp [hk, Bool.and_assoc]
set_option maxHeartbeats 1000000 in
theorem in_c (g : Nat) (below : Int) (ok : Bool) (ns : List Int) (oa : Option Addr) (cap b o : Nat) (w : World) (hb : ∀ x ∈ ns, R64 x) (hc1 : ns.length ≤ cap) (hc2 : cap ≤ maxLen) (hR : Rows w oa b o ns.length 1 fun i _ => .int .i64 (ns.getD i default)) (hbg : g ≠ b)
    (hok : w.cell? ⟨g, 3, none⟩ = some (.bool ok) ∧ w.frozen? ⟨g, 3, none⟩ = false) :
    Calls Try.prog 145 #[.pointer (some ⟨g, 0, none⟩), .int .i64 below, .slice oa ns.length cap] w fun e w' => e = .returned (.tuple #[]) ∧ Ext (w.setCell ⟨g, 3, none⟩ (.bool (ok && ns.all (okIn below)))) w' := by
  go_enter Try.func145, Try.ntmps145
  have hix := index_ints (cap := cap) hR.at_
  have Hrow := Lib.hid hR
  have hlen := len_bd hc1 hc2
  clear hR hc1 hc2
  go_wp2_with fail
  go_loopw [10] (fun i wr => ∃ k : Nat, k ≤ ns.length ∧ i = .int .i64 k ∧ Ext (w.setCell ⟨g, 3, none⟩ (.bool (ok && (ns.take k).all (okIn below)))) wr) (fun i _ => ns.length - (intOf i).toNat)
  case atStart => exact ⟨0, by omega, rfl, by simpa using upd_refl hok.1 (Ext.refl w)⟩
  case round =>
    obtain ⟨k, hk, rfl, hE⟩ := hrel
    have d0 := upd_same hE hok
    by_cases hlt : k < ns.length
    · have e0 := upd_cell hE (by simp <;> omega) (Hrow.out.one k hlt)
      have hn := hb _ (getD_mem hlt)
      have Hs := Lib.hid (take_and (okIn below) ns k default hlt ok)
      have HE := Lib.hid hE
      clear hE
      generalize ns.getD k default = n at *
      generalize (ok && (ns.take k).all (okIn below)) = ok' at *
      have hfin : ∀ u, u = (ok' && okIn below n) → Ext (w.setCell ⟨g, 3, none⟩ (.bool (ok && (ns.take (k + 1)).all (okIn below)))) (wr.setCell ⟨g, 3, none⟩ (.bool u)) := fun u hu => by
        rw [Hs.out, ← hu]
        exact upd_trans HE.out (Ext.refl _)
      have Hf := Lib.hid hfin
      clear hfin
      cases ok'
      · go_wp2
        go_roundw
        case rel => exact ⟨k + 1, by omega, by go_num, Hf.out _ (by simp)⟩
        case measure => first | (simp [intOf]; done) | (simp [intOf]; omega)
      · by_cases h0 : 0 ≤ n
        · by_cases h1 : n < below
          · go_wp2
            go_roundw
            case rel => exact ⟨k + 1, by omega, by go_num, Hf.out _ (by simp [okIn, h0, h1])⟩
            case measure => first | (simp [intOf]; done) | (simp [intOf]; omega)
          · go_wp2
            go_roundw
            case rel => exact ⟨k + 1, by omega, by go_num, Hf.out _ (by simp [okIn, h0, h1])⟩
            case measure => first | (simp [intOf]; done) | (simp [intOf]; omega)
        · go_wp2
          go_roundw
          case rel => exact ⟨k + 1, by omega, by go_num, Hf.out _ (by simp [okIn, h0])⟩
          case measure => first | (simp [intOf]; done) | (simp [intOf]; omega)
    · have hke : k = ns.length := by omega
      subst hke
      rw [List.take_length] at hE
      go_wp2
      refine bodyPost_end (results_none rfl _ _ _) rfl ?_
      exact ⟨rfl, hE⟩

theorem rows_new (w : World) (T : TypeId) (ns : List Int) : Rows (w.alloc (.cells (ns.map (Value.int .i64)).toArray T)) (some ⟨w.heap.size, 0, none⟩) w.heap.size 0 ns.length 1 fun i _ => .int .i64 (ns.getD i default) :=
  ⟨fun _ => rfl, fun i j hi hj => by
    obtain rfl : j = 0 := by omega
    have := (Blk.new w T (ns.map (Value.int .i64)).toArray).cell i
    rw [show (0 + i * 1 + 0) = i by omega, this]
    simp [hi]⟩
theorem kept_new {w : World} {p : Addr} {v : Value} (o : Obj) (h : w.cell? p = some v ∧ w.frozen? p = false) : (w.alloc o).cell? p = some v ∧ (w.alloc o).frozen? p = false := kept2 ((Ext.refl w).alloc o) h
/-- in, of one number that has just been laid -/
theorem in1_c (g : Nat) (below : Int) (ok : Bool) (n : Int) (w : World) (T : TypeId) (hn : R64 n)
    (hok : w.cell? ⟨g, 3, none⟩ = some (.bool ok) ∧ w.frozen? ⟨g, 3, none⟩ = false) :
    Calls Try.prog 145 #[.pointer (some ⟨g, 0, none⟩), .int .i64 below, .slice (some ⟨w.heap.size, 0, none⟩) 1 1] (w.alloc (.cells #[.int .i64 n] T)) fun e w' => e = .returned (.tuple #[]) ∧ Ext (w.setCell ⟨g, 3, none⟩ (.bool (ok && okIn below n))) w' :=
  (in_c g below ok [n] _ 1 w.heap.size 0 _ (by simpa using hn) (by simp) (by decide) (rows_new w T [n]) (by have := block_lt hok.1; simp at this; omega) (kept_new _ hok)).mono fun e w' ⟨h1, h2⟩ => ⟨h1, by
    have := upd_after ((Ext.refl w).alloc _) h2
    simpa using this⟩

theorem index_int {oa : Option Addr} {n b o cap : Nat} (h : 0 < n → oa = some ⟨b, o, none⟩) (W : World) (i : Int) (h0 : 0 ≤ i) (h1 : i < n) :
    (Instr.indexAt 51 (.slice oa n cap) (.int .i64 i)).run Try.prog W = .ok (.pointer (some ⟨b, o + i.toNat, none⟩)) W := by
  obtain rfl := h (by omega)
  have hs : (Try.prog.info? 3).map (·.size) = some 1 := by kernel_rfl
  simp [Instr.indexAt, run_underlying Try.underlying51, asIntOf, h0, h1]
  exact addr_add b o _

set_option maxHeartbeats 1000000 in
theorem reg_c (g : Nat) (R : Int) (ok : Bool) (ns : List Int) (oa : Option Addr) (cap b o : Nat) (w : World) (hb : ∀ x ∈ ns, R64 x) (hc1 : ns.length ≤ cap) (hc2 : cap ≤ maxLen) (hR : Rows w oa b o ns.length 1 fun i _ => .int .i64 (ns.getD i default)) (hbg : g ≠ b)
    (hr : w.cell? ⟨g, 2, none⟩ = some (.int .i64 R)) (hok : w.cell? ⟨g, 3, none⟩ = some (.bool ok) ∧ w.frozen? ⟨g, 3, none⟩ = false) :
    Calls Try.prog 142 #[.pointer (some ⟨g, 0, none⟩), .slice oa ns.length cap] w fun e w' => e = .returned (.tuple #[]) ∧ Ext (w.setCell ⟨g, 3, none⟩ (.bool (ok && ns.all (okIn R)))) w' := by
  go_enter Try.func142, Try.ntmps142
  have hix := index_int (cap := cap) hR.at_
  have Hrow := Lib.hid hR
  have hlen := len_bd hc1 hc2
  clear hR hc1 hc2
  go_wp2_with fail
  go_loopw [8] (fun i wr => ∃ k : Nat, k ≤ ns.length ∧ i = .int .i64 k ∧ Ext (w.setCell ⟨g, 3, none⟩ (.bool (ok && (ns.take k).all (okIn R)))) wr) (fun i _ => ns.length - (intOf i).toNat)
  case atStart => exact ⟨0, by omega, rfl, by simpa using upd_refl hok.1 (Ext.refl w)⟩
  case round =>
    obtain ⟨k, hk, rfl, hE⟩ := hrel
    have d0 := upd_same hE hok
    have d2 := upd_cell hE (by simp) hr
    by_cases hlt : k < ns.length
    · have e0 := upd_cell hE (by simp <;> omega) (Hrow.out.one k hlt)
      have hn := hb _ (getD_mem hlt)
      have Hs := Lib.hid (take_and (okIn R) ns k default hlt ok)
      have HE := Lib.hid hE
      clear hE
      generalize ns.getD k default = n at *
      generalize (ok && (ns.take k).all (okIn R)) = ok' at *
      go_wp2_with fail
      refine (in1_c g R ok' n wr _ hn d0).mono ?_
      rintro e w2 ⟨rfl, hx⟩
      have hfin := Lib.hid (upd_trans HE.out hx)
      rw [← Hs.out] at hfin
      go_wp2
      go_roundw
      case rel => exact ⟨k + 1, by omega, by go_num, hfin.out⟩
      case measure => first | (simp [intOf]; done) | (simp [intOf]; omega)
    · have hke : k = ns.length := by omega
      subst hke
      rw [List.take_length] at hE
      go_wp2
      refine bodyPost_end (results_none rfl _ _ _) rfl ?_
      exact ⟨rfl, hE⟩

set_option maxHeartbeats 1000000 in
theorem region_c (g : Nat) (ok : Bool) (oa : Option Addr) (len cap : Nat) (n : Int) (w : World) (hn : R64 n)
    (hr : w.cell? ⟨g, 0, none⟩ = some (.slice oa len cap)) (hok : w.cell? ⟨g, 3, none⟩ = some (.bool ok) ∧ w.frozen? ⟨g, 3, none⟩ = false) :
    Calls Try.prog 144 #[.pointer (some ⟨g, 0, none⟩), .int .i64 n] w fun e w' => e = .returned (.tuple #[]) ∧ Ext (w.setCell ⟨g, 3, none⟩ (.bool (ok && okIn len n))) w' := by
  go_enter Try.func144, Try.ntmps144
  go_wp2_with fail
  refine (in1_c g len ok n w _ hn hok).mono ?_
  rintro e w2 ⟨rfl, hx⟩
  go_wp2
  refine bodyPost_end (results_none rfl _ _ _) rfl ?_
  exact ⟨rfl, hx⟩

set_option maxHeartbeats 1000000 in
theorem nought_c (g : Nat) (ok : Bool) (m : Int) (hm : R64 m) (ns : List Int) (oa : Option Addr) (cap b o : Nat) (w : World) (hb : ∀ x ∈ ns, R64 x) (hc1 : ns.length ≤ cap) (hc2 : cap ≤ maxLen) (hR : Rows w oa b o ns.length 1 fun i _ => .int .i64 (ns.getD i default)) (hbg : g ≠ b)
    (hok : w.cell? ⟨g, 3, none⟩ = some (.bool ok) ∧ w.frozen? ⟨g, 3, none⟩ = false) :
    Calls Try.prog 143 #[.pointer (some ⟨g, 0, none⟩), .int .i64 m, .slice oa ns.length cap] w fun e w' => e = .returned (.tuple #[]) ∧ Ext (w.setCell ⟨g, 3, none⟩ (.bool (ok && okIn 1 m && ns.all (okIn 1)))) w' := by
  go_enter Try.func143, Try.ntmps143
  have hix := index_int (cap := cap) hR.at_
  have Hrow := Lib.hid hR
  have hlen := len_bd hc1 hc2
  clear hR hc1 hc2
  go_wp2_with fail
  refine (in1_c g 1 ok m w _ hm hok).mono ?_
  rintro e w1 ⟨rfl, hx1⟩
  generalize hok1 : (ok && okIn 1 m) = ok1 at *
  have Hok := Lib.hid hok1
  clear hok1
  have Hx1 := Lib.hid hx1
  clear hx1
  go_wp2_with fail
  go_loopw [14] (fun i wr => ∃ k : Nat, k ≤ ns.length ∧ i = .int .i64 k ∧ Ext (w.setCell ⟨g, 3, none⟩ (.bool (ok1 && (ns.take k).all (okIn 1)))) wr) (fun i _ => ns.length - (intOf i).toNat)
  case atStart => exact ⟨0, by omega, rfl, by simpa using Hx1.out⟩
  case round =>
    obtain ⟨k, hk, rfl, hE⟩ := hrel
    have d0 := upd_same hE hok
    by_cases hlt : k < ns.length
    · have e0 := upd_cell hE (by simp <;> omega) (Hrow.out.one k hlt)
      have hn := hb _ (getD_mem hlt)
      have Hs := Lib.hid (take_and (okIn 1) ns k default hlt ok1)
      have HE := Lib.hid hE
      clear hE
      generalize ns.getD k default = n at *
      generalize (ok1 && (ns.take k).all (okIn 1)) = ok' at *
      go_wp2_with fail
      refine (in1_c g 1 ok' n wr _ hn d0).mono ?_
      rintro e w2 ⟨rfl, hx⟩
      have hfin := Lib.hid (upd_trans HE.out hx)
      rw [← Hs.out] at hfin
      go_wp2
      go_roundw
      case rel => exact ⟨k + 1, by omega, by go_num, hfin.out⟩
      case measure => first | (simp [intOf]; done) | (simp [intOf]; omega)
    · have hke : k = ns.length := by omega
      subst hke
      rw [List.take_length] at hE
      go_wp2
      refine bodyPost_end (results_none rfl _ _ _) rfl ?_
      exact ⟨rfl, by rw [Hok.out]; exact hE⟩
end Go.Proofs.Yteiknefajlocoaa
