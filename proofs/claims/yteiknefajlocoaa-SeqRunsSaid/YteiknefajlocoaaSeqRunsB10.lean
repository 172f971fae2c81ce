/- Laid together from: Float, Seq5, Form5, FormF. -/
import Derived.Test.YteiknefajlocoaaSeqRunsB2
import Derived.Test.YteiknefajlocoaaSeqRunsB9
import Derived.Test.YteiknefajlocoaaSeqRunsB3

/- A SECOND LAW OF OUR OWN for a statement whose order Go leaves open: calm operations (they read, and yield one value) may come at any time; the others, 'heavy' (calls, new blocks, appends, stores), stand in one forced order among themselves; the first s of them turn nothing old, and behind the others only calm ones come that do not read memory. One walk serves all orders: the calm ones' values, then the heavy ones one after the other. No program in sight. -/
namespace Go.Proofs.Yteiknefajlocoaa
open Go Go.RowKit
set_option linter.unusedVariables false
set_option linter.unusedSimpArgs false

section
variable {P : Program} {ops : Array Oper}
def reachB (ops : Array Oper) : Nat → Nat → Nat → Bool
  | 0, _, _ => false
  | f + 1, b, i => Region.waitsFor .any ops b i || (List.range b).any fun m => decide (i < m) && (Region.waitsFor .any ops b m && reachB ops f m i)
theorem reach_listed {listed : Array Bool} (hc : Closed ops listed) : ∀ (f b i : Nat), (∀ ob, ops[b]? = some ob → ∀ e ∈ ob.after, Region.binds .any e = true → listed.getD e.on false = true) → reachB ops f b i = true → listed.getD i false = true
  | 0, _, _, _, h => by cases h
  | f + 1, b, i, hb, h => by
    simp only [reachB, Bool.or_eq_true] at h
    have key : ∀ m, Region.waitsFor .any ops b m = true → listed.getD m false = true := fun m hm => by
      obtain ⟨ob, hob, e, he, hbd, rfl⟩ := Region.waitsFor_spec hm
      exact hb ob hob e he hbd
    rcases h with h | h
    · exact key i h
    · obtain ⟨m, _, hm⟩ := List.any_eq_true.1 h
      simp only [Bool.and_eq_true] at hm
      exact reach_listed hc f m i (fun om hom e he hbd => hc m om hom (key m hm.2.1) e he hbd) hm.2.2
def isMove (o : Oper) : Bool := match o.op with
  | .move _ => o.guard.isNone
  | _ => false
def floatOk (ops : Array Oper) (hs : List Nat) (s : Nat) : Bool :=
  Region.noSelect ops &&
  ((List.range ops.size).all fun i => match ops[i]? with | some o => o.after.all fun e => !Region.binds .any e || decide (e.on < i) | none => true) &&
  ((List.range ops.size).all fun i => (List.range i).all fun j => (dstOf ops j).isNone || dstOf ops j != dstOf ops i) &&
  ((List.range ops.size).all fun i => match ops[i]? with
    | some o => (o.looksAt ops).all fun t => (List.range ops.size).all fun j => dstOf ops j != some t || (Region.waitsFor .any ops i j && (decide (j < i) && (hs.contains i || !hs.contains j)))
    | none => true) &&
  (hs.all fun c => decide (c < ops.size)) &&
  ((List.range hs.length).all fun b => (List.range b).all fun a => reachB ops ops.size (hs.getD b 0) (hs.getD a 0)) &&
  ((List.range hs.length).all fun b => decide (b < s) || (List.range ops.size).all fun i => hs.contains i || ((ops[i]?).map isMove).getD true || reachB ops ops.size (hs.getD b 0) i)

/-- a calm operation: one value, the world as it was, wherever nothing old has turned; or its guard is not met -/
def calmV (P : Program) (ops : Array Oper) (W : World) (o : Oper) (a : Act) (v : Value) : Prop :=
  (Region.wanted o (yielded ops a.tmps) = true ∧ ∀ w, Ext W w → (execOp a.eval o).run P w = .ok (.value v) w) ∨ (Region.wanted o (yielded ops a.tmps) = false ∧ v = undef)
def calmW (P : Program) (ops : Array Oper) (W : World) (hs : List Nat) (Z : Act → Prop) : Nat → List Oper → Act → Prop
  | _, [], a => Z a
  | k, o :: rest, a => if hs.contains k = true then calmW P ops W hs Z (k + 1) rest a else ∃ v, calmV P ops W o a v ∧ calmW P ops W hs Z (k + 1) rest (a.put o.dst v)
def heavies (ops : Array Oper) (hs : List Nat) : List Oper := hs.filterMap fun i => ops[i]?
/-- the heavy ones, one after the other: the first s of them turn nothing old -/
def wpF (P : Program) (ops : Array Oper) (Z : Act → World → Prop) (W : World) : Nat → List Nat → Act → World → Prop
  | _, [], A, w => Z A w
  | 0, i :: r, A, w => wpList P ops (fun x A' w' => x = .normal ∧ Z A' w') (heavies ops (i :: r)) A w
  | s + 1, i :: r, A, w => wpList P ops (fun x A' w' => x = .normal ∧ Ext W w' ∧ wpF P ops Z W s r A' w') (heavies ops [i]) A w
theorem wp_strict {o : Oper} {A A' : Act} {w : World} {K K' : Act → World → Prop} {Q1 Q2 : Exit → Act → World → Prop} (hE : execOp A.eval o = execOp A'.eval o)
    (hK : ∀ v w', K (A.put o.dst v) w' → K' (A'.put o.dst v) w') (hD : ∀ d w', K ({ A with defers := d :: A.defers }.put o.dst undef) w' → K' ({ A' with defers := d :: A'.defers }.put o.dst undef) w')
    (hQ : ∀ x a w, x ≠ .normal → ¬ Q1 x a w) (h : o.wp P A w K Q1) : o.wp P A' w K' Q2 := by
  unfold Oper.wp at *
  rw [← hE]
  generalize (execOp A.eval o).run P w = r at *
  cases r with
  | ok n w' =>
    cases n <;> simp only [Oper.upon] at h ⊢
    case value v => exact hK _ _ h
    case skip => exact hK _ _ h
    case defer d => exact hD _ _ h
    case enter f args =>
      exact Calls.mono h (fun e w'' he => by
        cases e
        · exact hK _ _ he
        · exact absurd he (hQ _ _ _ (by simp))
        · obtain ⟨a, w, he⟩ := he
          exact absurd he (hQ _ _ _ (by simp)))
    case row row args => exact Rows.mono h (fun _ _ he => hK _ _ he)
  | halt x w' =>
    cases x <;> simp only [Oper.upon] at h ⊢
    exact absurd h (hQ _ _ _ (by simp))
/-- what the next heavy one does -/
theorem wpF_step {Z : Act → World → Prop} {W : World} {s i : Nat} {r : List Nat} {A : Act} {w : World} {o : Oper} (ho : ops[i]? = some o) (hE : 0 < s → Ext W w) (h : wpF P ops Z W s (i :: r) A w) :
    (Region.wanted o (yielded ops A.tmps) = true ∧ ∃ Q1 : Exit → Act → World → Prop, (∀ x a w, x ≠ .normal → ¬ Q1 x a w) ∧ o.wp P A w (fun A' w' => (0 < s → Ext W w') ∧ wpF P ops Z W (s - 1) r A' w') Q1) ∨
    (Region.wanted o (yielded ops A.tmps) = false ∧ (0 < s → Ext W w) ∧ wpF P ops Z W (s - 1) r (A.put o.dst undef) w) := by
  cases s with
  | zero =>
    unfold wpF at h
    simp only [heavies, List.filterMap_cons, ho] at h
    have hr : ∀ A' w', wpList P ops (fun x A' w' => x = .normal ∧ Z A' w') (r.filterMap fun i => ops[i]?) A' w' → (0 < 0 → Ext W w') ∧ wpF P ops Z W (0 - 1) r A' w' := fun A' w' hh => by
      refine ⟨fun h0 => absurd h0 (by decide), ?_⟩
      cases r with
      | nil => exact hh.2
      | cons j r => exact hh
    cases hw : Region.wanted o (yielded ops A.tmps)
    · right
      unfold wpList at h
      rw [hw] at h
      simp only [Bool.false_eq_true, if_false] at h
      exact ⟨rfl, fun h0 => absurd h0 (by decide), (hr _ _ h).2⟩
    · left
      unfold wpList at h
      rw [hw] at h
      simp only [if_true] at h
      refine ⟨rfl, fun x A' w' => x = .normal ∧ Z A' w', fun x a w hx hh => hx hh.1, ?_⟩
      rcases h with h | ⟨-, a, w, h⟩
      · exact Oper.wp_mono hr h
      · cases h.1
  | succ s =>
    unfold wpF at h
    simp only [heavies, List.filterMap_cons, ho, List.filterMap_nil] at h
    cases hw : Region.wanted o (yielded ops A.tmps)
    · right
      unfold wpList at h
      rw [hw] at h
      simp only [Bool.false_eq_true, if_false] at h
      exact ⟨rfl, fun _ => h.2.1, h.2.2⟩
    · left
      unfold wpList at h
      rw [hw] at h
      simp only [if_true] at h
      refine ⟨rfl, fun x A' w' => x = .normal ∧ Ext W w' ∧ wpF P ops Z W s r A' w', fun x a w hx hh => hx hh.1, ?_⟩
      rcases h with h | ⟨-, a, w, h⟩
      · exact Oper.wp_mono (fun A' w' hh => ⟨fun _ => hh.2.1, hh.2.2⟩) h
      · cases h.1
/-- frames that agree but for what calm operations have not yet yielded -/
def Pend (ops : Array Oper) (pend : Nat → Prop) (a' A : Act) : Prop :=
  a'.defers = A.defers ∧ a'.tmps.size = A.tmps.size ∧ ∀ t, (∀ i, pend i → dstOf ops i ≠ some t) → a'.tmps[t]? = A.tmps[t]?
theorem pend_put {pend : Nat → Prop} {a' A : Act} (h : Pend ops pend a' A) (d : Option Tmp) (v : Value) : Pend ops pend (a'.put d v) (A.put d v) := by
  obtain ⟨h1, h2, h3⟩ := h
  cases d with
  | none => exact ⟨h1, h2, h3⟩
  | some d =>
    refine ⟨h1, by simpa [Act.put] using h2, fun t ht => ?_⟩
    simp only [Act.put]
    by_cases hd : d = t
    · subst hd
      by_cases hl : d < A.tmps.size
      · rw [Array.getElem?_setIfInBounds_self_of_lt (by rw [h2]; exact hl), Array.getElem?_setIfInBounds_self_of_lt hl]
      · rw [Array.getElem?_eq_none (by rw [Array.size_setIfInBounds, h2]; exact Nat.le_of_not_lt hl), Array.getElem?_eq_none (by rw [Array.size_setIfInBounds]; exact Nat.le_of_not_lt hl)]
    · rw [Array.getElem?_setIfInBounds_ne hd, Array.getElem?_setIfInBounds_ne hd]; exact h3 t ht
theorem pend_mono {p q : Nat → Prop} {a' A : Act} (h : Pend ops p a' A) (hpq : ∀ i, p i → q i) : Pend ops q a' A := ⟨h.1, h.2.1, fun t ht => h.2.2 t fun i hi => ht i (hpq i hi)⟩
/-- a calm one yields -/
theorem pend_calm {pend : Nat → Prop} {a' A : Act} (h : Pend ops pend a' A) (i : Nat) (v : Value) (hA : ∀ t, dstOf ops i = some t → t < A.tmps.size → A.tmps[t]? = some v) : Pend ops (fun j => pend j ∧ j ≠ i) (a'.put (dstOf ops i) v) A := by
  obtain ⟨h1, h2, h3⟩ := h
  cases hd : dstOf ops i with
  | none => exact ⟨h1, h2, fun t ht => h3 t fun j hj => by
      by_cases e : j = i
      · subst e; rw [hd]; simp
      · exact ht j ⟨hj, e⟩⟩
  | some d =>
    refine ⟨h1, by simpa [Act.put] using h2, fun t ht => ?_⟩
    simp only [Act.put]
    by_cases e : d = t
    · subst e
      by_cases hl : d < A.tmps.size
      · rw [Array.getElem?_setIfInBounds_self_of_lt (by rw [h2]; exact hl), hA d hd hl]
      · rw [Array.getElem?_eq_none (by rw [Array.size_setIfInBounds, h2]; exact Nat.le_of_not_lt hl), Array.getElem?_eq_none (Nat.le_of_not_lt hl)]
    · rw [Array.getElem?_setIfInBounds_ne e]
      exact h3 t fun j hj => by
        by_cases ej : j = i
        · subst ej; rw [hd]; simpa using e
        · exact ht j ⟨hj, ej⟩
/-- the calm values out of the walk -/
theorem calmW_values {W : World} {hs : List Nat} {Z : Act → Prop} {a0 : Act} (hdist : ∀ i j, i < ops.size → j < i → ∀ t, dstOf ops j = some t → dstOf ops i ≠ some t) : ∀ (l : List Oper) (k : Nat) (a : Act) (vs0 : Nat → Value),
    (∀ j, l[j]? = ops[k + j]?) → k + l.length = ops.size →
    IsMix ops a0 vs0 (fun i => i < k ∧ hs.contains i = false) a → calmW P ops W hs Z k l a →
    ∃ vs, (∀ j, j < k → vs j = vs0 j) ∧ (∀ i, k ≤ i → i < ops.size → hs.contains i = false → ∃ o c, ops[i]? = some o ∧ IsMix ops a0 vs (fun j => j < i ∧ hs.contains j = false) c ∧ calmV P ops W o c (vs i)) ∧ ∃ c, IsMix ops a0 vs (fun i => i < ops.size ∧ hs.contains i = false) c ∧ Z c
  | [], k, a, vs0, _, hk, hm, h => ⟨vs0, fun _ _ => rfl, fun i h1 h2 => by simp at hk; omega, a, by simp at hk; rw [← hk]; exact hm, h⟩
  | o :: l, k, a, vs0, hl, hk, hm, h => by
    have ho : ops[k]? = some o := by have := hl 0; simpa using this.symm
    have hdst : o.dst = dstOf ops k := by simp [dstOf, ho]
    have hkl : k < ops.size := by simp at hk; omega
    have hl' : ∀ j, l[j]? = ops[k + 1 + j]? := fun j => by have := hl (j + 1); simp only [List.getElem?_cons_succ] at this; rw [this, show k + (j + 1) = k + 1 + j by omega]
    unfold calmW at h
    by_cases hh : hs.contains k = true
    · rw [if_pos hh] at h
      obtain ⟨vs, e1, e2, e3⟩ := calmW_values hdist l (k + 1) a vs0 hl' (by simp at hk; omega) (mix_congr hm (fun i => by
        constructor
        · rintro ⟨h1, h2⟩; exact ⟨by omega, h2⟩
        · rintro ⟨h1, h2⟩
          refine ⟨?_, h2⟩
          by_cases e : i = k
          · subst e; rw [hh] at h2; cases h2
          · omega) (fun _ _ => rfl)) h
      refine ⟨vs, fun j hj => e1 j (by omega), fun i h1 h2 h3 => e2 i ?_ h2 h3, e3⟩
      by_cases e : i = k
      · subst e; rw [hh] at h3; cases h3
      · omega
    · rw [if_neg hh] at h
      have hh' : hs.contains k = false := by simpa using hh
      obtain ⟨v, hv, h⟩ := h
      have hm' : IsMix ops a0 (fun i => if i = k then v else vs0 i) (fun i => i < k + 1 ∧ hs.contains i = false) (a.put o.dst v) := by
        have := mix_put (vs' := fun i => if i = k then v else vs0 i) hm k (fun j hj t ht => hdist k j hkl hj.1 t ht) (fun j hj => by simp; intro e; omega)
        simp only [if_true] at this
        rw [hdst]
        refine mix_congr this (fun i => ?_) (fun _ _ => rfl)
        constructor
        · rintro (h1 | rfl)
          · exact ⟨by omega, h1.2⟩
          · exact ⟨by omega, hh'⟩
        · rintro ⟨h1, h2⟩
          by_cases e : i = k
          · exact .inr e
          · exact .inl ⟨by omega, h2⟩
      obtain ⟨vs, e1, e2, e3⟩ := calmW_values hdist l (k + 1) (a.put o.dst v) _ hl' (by simp at hk; omega) hm' h
      have ek : vs k = v := by rw [e1 k (by omega)]; simp
      refine ⟨vs, fun j hj => by rw [e1 j (by omega)]; simp; intro e; omega, fun i h1 h2 h3 => ?_, e3⟩
      by_cases e : i = k
      · subst e
        refine ⟨o, a, ho, mix_congr hm (fun _ => Iff.rfl) (fun j hj => by rw [e1 j (by omega)]; simp; intro e; omega), ?_⟩
        rw [ek]; exact hv
      · exact e2 i (by omega) h2 h3
theorem move_run {o : Oper} (h : isMove o = true) (a : Act) (w : World) : ∃ x, o.op = .move x ∧ o.guard = none ∧ (execOp a.eval o).run P w = .ok (.value (a.eval x)) w := by
  unfold isMove at h
  cases ho : o.op <;> rw [ho] at h <;> simp only [Bool.false_eq_true] at h
  rename_i x
  refine ⟨x, rfl, by simpa using h, ?_⟩
  unfold execOp
  simp [ho]

/-- what an invariant of the orders says: k heavy ones have been taken -/
structure Floats (P : Program) (ops : Array Oper) (Z : Act → World → Prop) (W : World) (hs : List Nat) (s : Nat) (vs : Nat → Value) (a0 : Act) (listed : Array Bool) (a' : Act) (w : World) : Prop where
  closed : Closed ops listed
  ex : ∃ k A, k ≤ hs.length ∧ (∀ b, b < hs.length → (listed.getD (hs.getD b 0) false = true ↔ b < k)) ∧ (k ≤ s → Ext W w) ∧ wpF P ops Z W (s - k) (hs.drop k) A w ∧
    Pend ops (fun i => i < ops.size ∧ hs.contains i = false ∧ listed.getD i false = false) a' A ∧
    (∀ i t, i < ops.size → hs.contains i = false → dstOf ops i = some t → t < A.tmps.size → A.tmps[t]? = some (vs i)) ∧
    (∀ t, (∀ i, dstOf ops i ≠ some t) → A.tmps[t]? = a0.tmps[t]?) ∧ A.tmps.size = a0.tmps.size

theorem floats_step {Z : Act → World → Prop} {Q : Exit → Act → World → Prop} {W : World} {hs : List Nat} {s : Nat} {vs : Nat → Value} {a0 : Act} (hB : floatOk ops hs s = true)
    (hv : ∀ i, i < ops.size → hs.contains i = false → ∃ o c, ops[i]? = some o ∧ IsMix ops a0 vs (fun j => j < i ∧ hs.contains j = false) c ∧ calmV P ops W o c (vs i))
    {listed : Array Bool} {a' : Act} {w : World} {i : Nat} (hsz : listed.size = ops.size) (hI : Floats P ops Z W hs s vs a0 listed a' w) (hi : i ∈ Region.ready .any ops listed) :
    wpOp P ops Q i (Floats P ops Z W hs s vs a0 (listed.setIfInBounds i true)) a' w := by
  simp only [floatOk, Bool.and_eq_true] at hB
  obtain ⟨⟨⟨⟨⟨⟨hsel, hback⟩, hdist⟩, hlook⟩, hin⟩, hord⟩, hhard⟩ := hB
  obtain ⟨hc, k, A, hk, hdone, hext, hF, hP, hAv, hAn, hAs⟩ := hI
  obtain ⟨hnl, o, ho, hall⟩ := mem_ready.1 hi
  have hil : i < ops.size := (Array.getElem?_eq_some_iff.1 ho).1
  have hils : i < listed.size := by omega
  have hnl' : listed.getD i false = false := by
    simp [hils] at hnl ⊢; exact hnl
  have hdst : o.dst = dstOf ops i := by simp [dstOf, ho]
  have hallo : ∀ ob, ops[i]? = some ob → ∀ e ∈ ob.after, Region.binds .any e = true → listed.getD e.on false = true := fun ob hob e he hb => by
    rw [ho] at hob
    obtain rfl := Option.some.inj hob
    exact hall e he hb
  have dist : ∀ x y, x < ops.size → y < ops.size → x ≠ y → ∀ t, dstOf ops x = some t → dstOf ops y ≠ some t := by
    have one : ∀ x y, x < ops.size → y < x → ∀ t, dstOf ops y = some t → dstOf ops x ≠ some t := fun x y hx hy t ht e => by
      have h := List.all_eq_true.1 (List.all_eq_true.1 hdist x (List.mem_range.2 hx)) y (List.mem_range.2 hy)
      rw [ht, e] at h
      simp at h
    intro x y hx hy hne t ht e
    rcases Nat.lt_or_gt_of_ne hne with h | h
    · exact one y x hy h t ht e
    · exact one x y hx h t e ht
  -- what it looks at has been yielded
  have look : ∀ t, t ∈ o.looksAt ops → ∀ j, dstOf ops j = some t → j < i ∧ listed.getD j false = true ∧ (hs.contains i = true ∨ hs.contains j = false) := fun t ht j hj => by
    have h := List.all_eq_true.1 hlook i (List.mem_range.2 hil)
    rw [ho] at h
    have hjl : j < ops.size := by
      unfold dstOf at hj
      cases hx : ops[j]? with
      | none => rw [hx] at hj; cases hj
      | some oj => exact (Array.getElem?_eq_some_iff.1 hx).1
    have h2 := List.all_eq_true.1 (List.all_eq_true.1 h t ht) j (List.mem_range.2 hjl)
    rw [hj] at h2
    simp only [bne_self_eq_false, Bool.false_or, Bool.and_eq_true, decide_eq_true_eq, Bool.or_eq_true, Bool.not_eq_true'] at h2
    obtain ⟨oj, hoj, e, he, hb, rfl⟩ := Region.waitsFor_spec h2.1
    exact ⟨h2.2.1, hallo oj hoj e he hb, h2.2.2⟩
  have hlt : ∀ t, t ∈ o.looksAt ops → a'.tmps[t]? = A.tmps[t]? := fun t ht => hP.2.2 t fun j hj e => by
    have := (look t ht j e).2.1
    rw [hj.2.2] at this; cases this
  have hex := eval_alike (ops := ops) o (fun cs b => Region.noSelect_spec hsel i o cs b ho) hlt
  have hwa := wanted_alike (ops := ops) o hlt
  have hcl := hc.step hi
  unfold wpOp
  rw [ho]
  simp only []
  cases hh : hs.contains i
  · -- a calm one
    obtain ⟨o2, c, ho2, hmc, hcalm⟩ := hv i hil hh
    rw [ho] at ho2
    obtain rfl := Option.some.inj ho2
    have hlc : ∀ t, t ∈ o.looksAt ops → A.tmps[t]? = c.tmps[t]? := fun t ht => by
      by_cases hx : ∃ j, dstOf ops j = some t
      · obtain ⟨j, hj⟩ := hx
        obtain ⟨h1, h2, h3⟩ := look t ht j hj
        have hjh : hs.contains j = false := by
          rcases h3 with h3 | h3
          · rw [hh] at h3; cases h3
          · exact h3
        by_cases hl : t < A.tmps.size
        · rw [hAv j t (by omega) hjh hj hl, hmc.2.2.1 j t ⟨h1, hjh⟩ hj (by rw [← hAs]; exact hl)]
        · rw [Array.getElem?_eq_none (Nat.le_of_not_lt hl), Array.getElem?_eq_none (by rw [hmc.2.1, ← hAs]; exact Nat.le_of_not_lt hl)]
      · rw [hAn t fun j e => hx ⟨j, e⟩, hmc.2.2.2 t fun j _ e => hx ⟨j, e⟩]
    have hlac : ∀ t, t ∈ o.looksAt ops → a'.tmps[t]? = c.tmps[t]? := fun t ht => (hlt t ht).trans (hlc t ht)
    have hexc := eval_alike (ops := ops) o (fun cs b => Region.noSelect_spec hsel i o cs b ho) hlac
    have hwac := wanted_alike (ops := ops) o hlac
    have next : Floats P ops Z W hs s vs a0 (listed.setIfInBounds i true) (a'.put o.dst (vs i)) w := by
      refine ⟨hcl, k, A, hk, fun b hb => ?_, hext, hF, ?_, hAv, hAn, hAs⟩
      · rw [← hdone b hb]
        have hne : hs.getD b 0 ≠ i := fun e => by
          have : hs.contains i = true := by
            rw [← e]; simp [hb]
          rw [hh] at this; cases this
        rw [getD_set_ne false (fun e => hne e.symm)]
      · rw [hdst]
        refine pend_mono (pend_calm hP i (vs i) (fun t ht hl => hAv i t hil hh ht hl)) fun j hj => ?_
        obtain ⟨⟨h1, h2, h3⟩, h4⟩ := hj
        exact ⟨h1, h2, by rw [getD_set_ne false (fun e => h4 e.symm)]; exact h3⟩
    rcases hcalm with ⟨hw, hrun⟩ | ⟨hw, hv0⟩
    · rw [hwac, if_pos hw]
      left
      have hrw : (execOp a'.eval o).run P w = .ok (.value (vs i)) w := by
        rw [hexc]
        by_cases hks : k ≤ s
        · exact hrun w (hext hks)
        · -- behind a heavy one that turns something: it does not read memory
          have hsk : s < hs.length := by omega
          have h1 := List.all_eq_true.1 hhard s (List.mem_range.2 hsk)
          rw [decide_eq_false (Nat.lt_irrefl s), Bool.false_or] at h1
          have h2 := List.all_eq_true.1 h1 i (List.mem_range.2 hil)
          rw [ho, hh] at h2
          simp only [Bool.false_or, Option.map_some, Option.getD_some, Bool.or_eq_true] at h2
          rcases h2 with h2 | h2
          · obtain ⟨x, hx, -, hr⟩ := move_run (P := P) h2 c w
            obtain ⟨x', hx', -, hr'⟩ := move_run (P := P) h2 c W
            rw [hx] at hx'
            obtain rfl := Op.move.inj hx'
            have h3 := hrun W (Ext.refl W)
            rw [hr'] at h3
            rw [hr]
            simp only [Result.ok.injEq, Next.value.injEq, and_true] at h3
            rw [h3]
          · exfalso
            have h3 : listed.getD (hs.getD s 0) false = true := (hdone s hsk).2 (by omega)
            have := reach_listed hc ops.size (hs.getD s 0) i (fun ob hob e he hb => hc _ ob hob h3 e he hb) h2
            rw [hnl'] at this; cases this
      unfold Oper.wp
      rw [hrw]
      exact next
    · rw [hwac, hw]
      simp only [Bool.false_eq_true, if_false]
      rw [hv0] at next
      exact next
  · -- a heavy one: the next
    have hmem : i ∈ hs := by simpa using hh
    obtain ⟨b, hb, hbi⟩ := List.getElem_of_mem hmem
    have hgb : hs.getD b 0 = i := by simp [hb, hbi]
    have hbk : k ≤ b := by
      rcases Nat.lt_or_ge b k with h | h
      · have := (hdone b hb).2 h
        rw [hgb, hnl'] at this; cases this
      · exact h
    have hbk' : b = k := by
      rcases Nat.lt_or_ge k b with h | h
      · exfalso
        have h1 := List.all_eq_true.1 (List.all_eq_true.1 hord b (List.mem_range.2 hb)) k (List.mem_range.2 h)
        rw [hgb] at h1
        have := reach_listed hc ops.size i (hs.getD k 0) hallo h1
        have := (hdone k (by omega)).1 this
        omega
      · omega
    subst hbk'
    have hdrop : hs.drop b = i :: hs.drop (b + 1) := by rw [List.drop_eq_getElem_cons hb, hbi]
    rw [hdrop] at hF
    have next : ∀ (A1 a1 : Act) (v : Value) (w1 : World), A1.tmps = A.tmps → a1.tmps = a'.tmps → a1.defers = A1.defers → (0 < s - b → Ext W w1) → wpF P ops Z W (s - b - 1) (hs.drop (b + 1)) (A1.put o.dst v) w1 → Floats P ops Z W hs s vs a0 (listed.setIfInBounds i true) (a1.put o.dst v) w1 := by
      intro A1 a1 v w1 hA1 ha1 hdf hx hw
      have hPP : Pend ops (fun j => j < ops.size ∧ hs.contains j = false ∧ listed.getD j false = false) a1 A1 := ⟨hdf, by rw [ha1, hA1]; exact hP.2.1, fun t ht => by rw [ha1, hA1]; exact hP.2.2 t ht⟩
      refine ⟨hcl, b + 1, A1.put o.dst v, by omega, fun d hd => ?_, fun hle => hx (by omega), by rw [show s - (b + 1) = s - b - 1 by omega]; exact hw, ?_, fun j t hj hjh hjt hl => ?_, fun t ht => ?_, ?_⟩
      · by_cases hdb : d = b
        · subst hdb
          rw [hgb, set_listed hils]
          simp
        · have hne : hs.getD d 0 ≠ i := fun e => by
            rcases Nat.lt_or_gt_of_ne hdb with h | h
            · have := (hdone d hd).2 h
              rw [e, hnl'] at this; cases this
            · have h1 := List.all_eq_true.1 (List.all_eq_true.1 hord d (List.mem_range.2 hd)) b (List.mem_range.2 h)
              rw [e, hgb] at h1
              have := reach_listed hc ops.size i i hallo h1
              rw [hnl'] at this; cases this
          rw [getD_set_ne false (fun e => hne e.symm), hdone d hd]
          omega
      · refine pend_mono (pend_put hPP o.dst v) fun j hj => ⟨hj.1, hj.2.1, ?_⟩
        have hne : j ≠ i := fun e => by rw [e, hh] at hj; cases hj.2.1
        rw [getD_set_ne false (fun e => hne e.symm)]
        exact hj.2.2
      · have hne : j ≠ i := fun e => by rw [e, hh] at hjh; cases hjh
        have hns : dstOf ops i ≠ some t := dist j i hj hil hne t hjt
        have hAA : (A1.put o.dst v).tmps[t]? = A.tmps[t]? := by
          rw [hdst]
          cases hd : dstOf ops i with
          | none => simp [Act.put, hA1]
          | some d =>
            have : d ≠ t := fun e => hns (by rw [hd, e])
            simp only [Act.put]
            rw [Array.getElem?_setIfInBounds_ne this, hA1]
        rw [hAA]
        refine hAv j t hj hjh hjt ?_
        have hsz2 : (A1.put o.dst v).tmps.size = A.tmps.size := by cases o.dst <;> simp [Act.put, hA1]
        rw [← hsz2]; exact hl
      · have hns : dstOf ops i ≠ some t := ht i
        rw [← hAn t ht, hdst]
        cases hd : dstOf ops i with
        | none => simp [Act.put, hA1]
        | some d =>
          have : d ≠ t := fun e => hns (by rw [hd, e])
          simp only [Act.put]
          rw [Array.getElem?_setIfInBounds_ne this, hA1]
      · rw [← hAs]
        cases o.dst <;> simp [Act.put, hA1]
    rw [hwa]
    rcases wpF_step ho (fun h0 => hext (by omega)) hF with ⟨hw, Q1, hQ1, hwp⟩ | ⟨hw, hx, hw2⟩
    · rw [if_pos hw]
      left
      exact wp_strict hex.symm (fun v w1 hh => next A a' v w1 rfl rfl hP.1 hh.1 hh.2) (fun d w1 hh => next { A with defers := d :: A.defers } { a' with defers := d :: a'.defers } undef w1 rfl rfl (by simp [hP.1]) hh.1 hh.2) hQ1 hwp
    · rw [hw]
      simp only [Bool.false_eq_true, if_false]
      exact next A a' undef w rfl rfl hP.1 hx hw2
theorem put_none (a : Act) : a.put none undef = a := rfl
/-- THE LAW -/
theorem region_float {id : Nat} {l : List Oper} {Q : Exit → Act → World → Prop} {W : World} {a : Act} (hs : List Nat) (s : Nat) (hm : P.follows .mixedOrders = true) (hB : floatOk l.toArray hs s = true)
    (h : calmW P l.toArray W hs (fun A => ∀ w, Ext W w → wpF P l.toArray (Q .normal) W s hs A w) 0 l a) : (Code.region id l.toArray true).wp P Q a W := by
  have hB' := hB
  simp only [floatOk, Bool.and_eq_true] at hB'
  obtain ⟨⟨⟨⟨⟨⟨hsel, hback⟩, hdist⟩, hlook⟩, hin⟩, hord⟩, hhard⟩ := hB'
  have one : ∀ x y, x < l.toArray.size → y < x → ∀ t, dstOf l.toArray y = some t → dstOf l.toArray x ≠ some t := fun x y hx hy t ht e => by
    have h := List.all_eq_true.1 (List.all_eq_true.1 hdist x (List.mem_range.2 hx)) y (List.mem_range.2 hy)
    rw [ht, e] at h
    simp at h
  obtain ⟨vs, _, hv, c, hcm, hZ⟩ := calmW_values (ops := l.toArray) (a0 := a) one l 0 a (fun _ => undef) (fun j => by simp) (by simp) (mix_congr (mix_nil a (fun _ => undef)) (fun i => ⟨fun h => h.elim, fun h => by omega⟩) (fun _ h => h.elim)) h
  refine wp_region_any hm ?_
  refine wpAny_inv (Floats P l.toArray (Q .normal) W hs s vs a) ?_ ?_ ?_ _ _ _ _ (by simp) (by
    refine Nat.le_trans (List.length_filter_le _ _) (by simp)) ?_
  · intro listed a' w i hsz hI hi
    exact floats_step hB (fun i h1 h2 => hv i (by omega) h1 h2) hsz hI hi
  · -- the end
    intro listed a' w hsz hI hr
    have hall : ∀ i, i < l.toArray.size → listed.getD i false = true := by
      intro i hi
      cases hl : listed.getD i false
      · exfalso
        obtain ⟨m, h1, h2, h3⟩ := range_first (p := fun i => !listed.getD i false) (m := l.toArray.size) ⟨i, hi, by simpa using hl⟩
        have hm' : m ∈ Region.ready .any l.toArray listed := by
          refine mem_ready.2 ⟨?_, l.toArray[m], by simp [h1], fun e he hb => ?_⟩
          · have hlt : m < listed.size := by omega
            simp [hlt] at h2 ⊢; exact h2
          · have h := List.all_eq_true.1 hback m (List.mem_range.2 h1)
            have ho : l.toArray[m]? = some l.toArray[m] := by simp [h1]
            rw [ho] at h
            have := (Array.all_eq_true'.1 h) e he
            rw [hb] at this
            simp at this
            have := h3 e.on this
            simpa using this
        rw [hr] at hm'
        cases hm'
      · rfl
    obtain ⟨hc, k, A, hk, hdone, hext, hF, hP, hAv, hAn, hAs⟩ := hI
    have hkl : k = hs.length := by
      rcases Nat.lt_or_ge k hs.length with h1 | h1
      · exfalso
        have hin1 := List.all_eq_true.1 hin (hs.getD k 0) (by simp [h1])
        have := (hdone k h1).1 (hall _ (by simpa using hin1))
        omega
      · omega
    rw [hkl, List.drop_length] at hF
    have hA : a' = A := by
      obtain ⟨p1, p2, p3⟩ := hP
      obtain ⟨t1, d1⟩ := a'
      obtain ⟨t2, d2⟩ := A
      have ht : t1 = t2 := by
        apply Array.ext_getElem?
        intro t
        exact p3 t fun i hi e => by
          have h1 := hall i hi.1
          have h2 := hi.2.2
          rw [h1] at h2; cases h2
      subst ht
      congr 1
    rw [hA]
    cases hsk : s - hs.length <;> (rw [hsk] at hF; exact hF)
  · intro listed a' w hsz _ hall
    rw [List.eq_nil_iff_forall_not_mem]
    intro i hi
    obtain ⟨h0, o, ho, _⟩ := mem_ready.1 hi
    rw [hall i (Array.getElem?_eq_some_iff.1 ho).1] at h0
    cases h0
  · -- the beginning
    have hnl : ∀ j, (Array.replicate l.toArray.size false).getD j false = false := fun j => by
      rw [Array.getD_eq_getD_getElem?, Array.getElem?_replicate]
      split <;> rfl
    refine ⟨fun j oj hj hl => absurd hl (by rw [hnl j]; simp), 0, c, Nat.zero_le _, fun b hb => ?_, fun _ => (Ext.refl W).drew, ?_, ?_, fun i t hi hh ht hl => ?_, fun t ht => ?_, hcm.2.1⟩
    · rw [hnl]; simp
    · exact hZ _ ((Ext.refl W).drew)
    · refine ⟨hcm.1.symm, hcm.2.1.symm, fun t ht => ?_⟩
      exact (hcm.2.2.2 t fun i hi => ht i ⟨hi.1, hi.2, hnl i⟩).symm
    · exact hcm.2.2.1 i t ⟨hi, hh⟩ ht (by rw [← hcm.2.1]; exact hl)
    · exact hcm.2.2.2 t fun i _ => ht i
/-! steps of the walk -/
section
variable {W : World} {hs : List Nat} {Zc : Act → Prop} {k s i : Nat} {o : Oper} {rest : List Oper} {a : Act} {r : List Nat} {Z : Act → World → Prop} {w : World}
theorem cw_nil (h : Zc a) : calmW P ops W hs Zc k [] a := h
theorem cw_heavy (hh : hs.contains k = true) (h : calmW P ops W hs Zc (k + 1) rest a) : calmW P ops W hs Zc k (o :: rest) a := by
  unfold calmW; rw [if_pos hh]; exact h
theorem cw_value (hh : hs.contains k = false) (hw : Region.wanted o (yielded ops a.tmps) = true)
    (h : ∃ v, (∀ w, Ext W w → (execOp a.eval o).run P w = .ok (.value v) w) ∧ calmW P ops W hs Zc (k + 1) rest (a.put o.dst v)) : calmW P ops W hs Zc k (o :: rest) a := by
  obtain ⟨v, h1, h2⟩ := h
  unfold calmW
  rw [if_neg (by rw [hh]; simp)]
  exact ⟨v, .inl ⟨hw, h1⟩, h2⟩
theorem cw_skip (hh : hs.contains k = false) (hw : Region.wanted o (yielded ops a.tmps) = false) (h : calmW P ops W hs Zc (k + 1) rest (a.put o.dst undef)) : calmW P ops W hs Zc k (o :: rest) a := by
  unfold calmW
  rw [if_neg (by rw [hh]; simp)]
  exact ⟨undef, .inr ⟨hw, rfl⟩, h⟩
theorem wpF_soft (ho : ops[i]? = some o) (h : wpList P ops (fun x A' w' => x = .normal ∧ Ext W w' ∧ wpF P ops Z W s r A' w') [o] a w) : wpF P ops Z W (s + 1) (i :: r) a w := by
  unfold wpF
  simp only [heavies, List.filterMap_cons, ho, List.filterMap_nil]
  exact h
theorem wpF_hard {L : List Oper} (hL : heavies ops (i :: r) = L) (h : wpList P ops (fun x A' w' => x = .normal ∧ Z A' w') L a w) : wpF P ops Z W 0 (i :: r) a w := by
  unfold wpF
  rw [hL]
  exact h
theorem heavies_cons {L : List Oper} (ho : ops[i]? = some o) (h : heavies ops r = L) : heavies ops (i :: r) = o :: L := by
  unfold heavies at *
  rw [List.filterMap_cons, ho, h]
theorem heavies_nil : heavies ops [] = [] := rfl
end
end
end Go.Proofs.Yteiknefajlocoaa
/- Walks of slices.Clone, and of the program's Begin. -/
namespace Go.Proofs.Yteiknefajlocoaa
open Go.ChangeShapes Go.WideShapes Go.ChangeAt Go.RowKit
set_option linter.unusedVariables false
set_option linter.unusedSimpArgs false

theorem sl_nil (ad : Addr) (n cap : Nat) (w : World) : (binOp .eql 71 (.slice (some ad) n cap) (.slice none 0 0)).run Try.prog w = .ok (.bool false) w := by
  first | (kernel_rfl; done) | (go_simp; done)
theorem nil_nil (w : World) : (binOp .eql 71 (.slice none 0 0) (.slice none 0 0)).run Try.prog w = .ok (.bool true) w := by
  first | (kernel_rfl; done) | (go_simp; done)
theorem infoInt : (Try.prog.info? 3).map (fun i => (i.zero, i.size, i.bytes)) = some (some (.int .i64 0), 1, 8) := by kernel_rfl
set_option maxRecDepth 100000 in
theorem clone_c {w : World} {ad : Addr} {n cap : Nat} {news : List Value} (hs : Src w 1 (some ad) n news) (hn : n ≤ 1000000) :
    Calls Try.prog 111 #[.slice (some ad) n cap] w fun e w' => ∃ v', e = .returned v' ∧ w'.ownsRow w.heap.size 2 1 v' n news ∧ Ext w w' := by
  obtain ⟨i0, hi0, hz0, hz1, hz2⟩ := info_parts infoI64
  have Hs := Lib.hid hs
  have hnil := sl_nil ad n cap
  clear hs
  go_enter Try.func111, Try.ntmps111
  go_wp2_with (at_builtin; refine wpList_append_src _ rfl _ _ 71 rfl w.heap.size 2 i0 _ 1 8 Try.underlying71 hi0 hz0 hz1 hz2 rfl (by decide) _ 0 [] rfl ?c0 (some ad) n cap news rfl ?c1 ?c3 ?c4 ?c5 ?_)
  case c0 =>
    have h := World.ownsRow_lit (base := w.heap.size) (e := 2) (size := 1) w #[] 0 (Nat.le_refl _) (by decide) rfl
    simpa [Act.eval] using h
  case c1 => exact Hs.out.ext ((Ext.refl _).alloc _)
  case c3 => unfold maxLen; omega
  case c4 => omega
  case c5 => simp
  intro v1 w1 hown hgrow hat
  have X : Ext w w1 := ((Ext.refl w).alloc _).grown hgrow (by
    intro k hk
    simp [Act.eval, Value.ownBlock] at hk
    omega)
  have Hown := Lib.hid hown
  have X := Lib.hid X
  clear hown hgrow hat
  go_wp2
  go_ret
  exact ⟨_, rfl, by simpa using Hown.out, X.out⟩
set_option maxRecDepth 100000 in
theorem clone_nil (w : World) (cap : Nat) :
    Calls Try.prog 111 #[.slice none 0 0] w fun e w' => e = .returned (.slice none 0 0) ∧ w = w' := by
  have hnil := nil_nil
  go_enter Try.func111, Try.ntmps111
  go_wp2
  go_ret
  exact ⟨rfl, rfl⟩

section
variable {w w' : World} {B g : Nat} {vR vC vM vB vS vW : Value} {bases : List Int} {M : Mach}
/-- a base more -/
theorem MSt.bases_ (h : MSt w B g vR vC vM vB vS vW bases M) {vB' : Value} {bs : List Int} (hg : w.grownBy w' vB.ownBlock) (ho : w'.ownsRow B 3 1 vB' bs.length (bs.map (Value.int .i64))) :
    MSt (w'.setCell ⟨g, 19, none⟩ vB') B g vR vC vM vB' vS vW bs M := by
  have hb := h.box.grown hg h.gb
  have hne : some g ≠ vB'.ownBlock := own_ne ho hb (by decide)
  have hw := own_grown h.ws hg (fun k hk he => own_ne2 h.bs h.ws (by decide) k hk he)
  have hs := own_grown h.sn hg (fun k hk he => own_ne2 h.bs h.sn (by decide) k hk he)
  exact ⟨by rw [← mach_set_bases h.len (u := vB')]; exact hb.set_ 19 vB', own_far hs h.gs _, own_far hw h.gw _, own_far ho hne _, h.len, h.hg⟩
/-- words more -/
theorem MSt.words_ (h : MSt w B g vR vC vM vB vS vW bases M) {vW' : Value} {ws : List Int} (hg : w.grownBy w' vW.ownBlock) (ho : w'.ownsRow B 2 1 vW' ws.length (ws.map (Value.int .i64))) :
    MSt (w'.setCell ⟨g, 17, none⟩ vW') B g vR vC vM vB vS vW' bases { M with words := ws } := by
  have hb := h.box.grown hg h.gw
  have hne : some g ≠ vW'.ownBlock := own_ne ho hb (by decide)
  have hbs := own_grown h.bs hg (fun k hk he => own_ne2 h.ws h.bs (by decide) k hk he)
  have hs := own_grown h.sn hg (fun k hk he => own_ne2 h.ws h.sn (by decide) k hk he)
  exact ⟨by rw [← mach_set_words h.len (u := vW')]; exact hb.set_ 17 vW', own_far hs h.gs _, own_far ho hne _, own_far hbs h.gb _, h.len, h.hg⟩
end
def BeginPost (p : LProg) (m : List (List Int)) (vR vC : Value) (w : World) (e : Ending) (w' : World) : Prop :=
  ∃ g vB vW, e = .returned (.pointer (some ⟨g, 0, none⟩)) ∧ MSt w' w.heap.size g vR vC (.slice none 0 0) vB (.slice none 0 0) vW (basesOf p) (start m.flatten) ∧ Ext w w'
def bsTo (p : LProg) (j : Nat) : List Int := (List.range j).map fun k => (baseOf p k : Int)
set_option maxRecDepth 100000 in
set_option maxHeartbeats 4000000 in
theorem begin_c (p : LProg) (m : List (List Int)) (vR vC vm : Value) (w : World) (hm : MemAt w vm m) (hf : fitsOk p m = true) (hr : regsOk p.regs = true) :
    Calls Try.prog 70 #[.agg #[vR, vC], vm] w (BeginPost p m vR vC w) := by
  obtain ⟨hl1, hl2⟩ := fits_len hf
  have hlen := regsOk_len hr
  have htt := total_le hr
  have Hft := Lib.hid (flat_take hf)
  obtain ⟨oa, cap, b, o, rfl, hc1, hc2, vs0, hrow, hin⟩ := hm
  have hix := index_mem' (cap := cap) hrow.at_
  have Hrow := Lib.hid hrow
  have Hin := Lib.hid hin
  have Hl2 := Lib.hid hl2
  have Hr := Lib.hid hr
  have Hl1 := Lib.hid hl1
  have hm6 : m.length ≤ 6 := by omega
  obtain ⟨i0, hi0, hz0, hz1, hz2⟩ := info_parts infoI64
  obtain ⟨j0, hj0, hy0, hy1, hy2⟩ := info_parts infoInt
  clear hrow hin hc1 hc2 hl2 hr hl1 hlen
  go_enter Try.func70, Try.ntmps70
  go_wp2_with fail
  obtain ⟨W, gp, hg, hW, hx, bP, bM⟩ := blocks2 w #[vR, vC] #[vR, vC, .int .i64 0, .int .i64 0, .int .i64 0, .slice none 0 0, .slice none 0 0, .int .i64 0, .int .i64 0, .int .i64 0, .int .i64 0, .int .i64 0, .int .i64 0, .int .i64 0, .int .i64 0, .int .i64 0, .int .i64 0, .slice none 0 0, .int .i64 0, .slice none 0 0] 25 110
  rw [hW, hg]
  have X := Lib.hid hx
  have P0 : MSt W w.heap.size (gp + 1) vR vC (.slice none 0 0) (.slice none 0 0) (.slice none 0 0) (.slice none 0 0) (bsTo p 0) { start [] with words := (m.take 0).flatten } :=
    ⟨bM, World.ownsRow_nil _ _ _ _, World.ownsRow_nil _ _ _ _, World.ownsRow_nil _ _ _ _, rfl, by omega⟩
  clear hW hg hx bP bM
  generalize gp + 1 = g at *
  go_loopw [13] (fun i wr => ∃ (j : Nat) (vB vW : Value), j ≤ m.length ∧ i = .int .i64 j ∧ MSt wr w.heap.size g vR vC (.slice none 0 0) vB (.slice none 0 0) vW (bsTo p j) { start [] with words := (m.take j).flatten } ∧ Ext w wr) (fun i _ => m.length - (intOf i).toNat)
  case atStart => exact ⟨0, _, _, by omega, rfl, P0, X.out⟩
  case round =>
    obtain ⟨j, vB, vW, hj, rfl, P, hE⟩ := hrel
    have X := Lib.hid hE
    have PP := Lib.hid P
    have hgl := P.box.lt
    have hwl : ((m.take j).flatten).length = baseOf p j := Hft.out j (by rw [← Hl1.out]; omega)
    have hbl := base_le p j
    clear hE P
    by_cases hlt : j < m.length
    · have e0 := (Hrow.out.ext X.out).one j hlt
      have h1 := Hin.out j hlt
      have hlj := Hl2.out j (by rw [← Hl1.out]; omega)
      have hw6 : wordsOf (p.regs.getD j default) ≤ 64 := words_le _ (regsOk_log Hr.out _ (getD_mem (by rw [← Hl1.out]; omega))).2
      have Hnext : Hid ((m.take (j + 1)).flatten = (m.take j).flatten ++ m.getD j default) := Lib.hid (by
        rw [List.take_succ_eq_append_getElem hlt, List.flatten_append]
        simp [hlt])
      have Hbs : Hid (bsTo p (j + 1) = bsTo p j ++ [(baseOf p j : Int)]) := Lib.hid (by simp [bsTo, List.range_succ])
      have hbsl : (bsTo p j).length = j := by simp [bsTo]
      generalize m.getD j default = l at *
      generalize vs0 j = vl at *
      obtain ⟨-, ol, lcap, lb, lo, rfl, hl3, hl4, hlr⟩ := h1
      have Hlr := Lib.hid hlr
      rw [hlj] at e0
      generalize wordsOf (p.regs.getD j default) = L at *
      obtain ⟨-, -, -, -, -, -, -, g17, -, g19⟩ := PP.out.cells
      obtain ⟨ob, obc, rfl⟩ := own_slice PP.out.bs
      obtain ⟨ow, owc, rfl⟩ := own_slice PP.out.ws
      have Hwl := Lib.hid hwl
      rw [hbsl] at g19
      simp only [hwl] at g17
      clear hlr hl3 hl4
      go_upto_region 5 with fail
      have k17 : ∀ W, Ext wr W → W.cell? ⟨g, 17, none⟩ = some (.slice ow (baseOf p j) owc) := fun _ h => h.kept g17.1
      have k19 : ∀ W, Ext wr W → W.cell? ⟨g, 19, none⟩ = some (.slice ob j obc) := fun _ h => h.kept g19.1
      refine region_float [11, 12, 13, 14, 15] 1 (by kernel_rfl) (by kernel_rfl) ?_
      repeat (first | (refine cw_heavy ?_ ?_; (decide)) | (refine cw_value ?_ ?_ ?_; (decide); (first | rfl | (focus (go_simp; done))); apply Exists.intro; refine ⟨fun wc hE => ?_, ?_⟩; (go_simp; exact rfl); go_simp) | (refine cw_skip ?_ ?_ ?_; (decide); (focus (go_simp; done)); go_simp))
      refine cw_nil ?_
      intro w2 hx
      have X2 := Lib.hid hx
      clear k17 k19
      refine wpF_soft rfl ?_
      go_wp2
      have PB := PP.out.ext (X2.out.alloc (.cells #[.int .i64 (baseOf p j : Int)] 3))
      have X3 := Lib.hid (X.out.trans (X2.out.alloc (.cells #[.int .i64 (baseOf p j : Int)] 3)))
      refine ⟨X2.out.alloc _, ?_⟩
      refine wpF_hard (heavies_cons rfl (heavies_cons rfl (heavies_cons rfl (heavies_cons rfl (heavies_nil))))) ?_
      have hbo := PB.bs
      rw [hbsl] at hbo
      refine wpList_append_src _ rfl _ _ 51 rfl w.heap.size 3 j0 _ 1 8 Try.underlying51 hj0 hy0 hy1 hy2 rfl (by decide) _ _ _ rfl hbo (some ⟨w2.heap.size, 0, none⟩) 1 1 [.int .i64 (baseOf p j : Int)] rfl ?c1 ?c3 ?c4 ?c5 ?_
      case c1 => exact src_new (size := 1) (Blk.new w2 3 #[.int .i64 (baseOf p j : Int)]) rfl (by simp [Value.oneCell'])
      case c3 => unfold maxLen; omega
      case c4 => omega
      case c5 => exact X3.out.size
      intro v1 w3 hown hgrow hat
      clear hat
      obtain ⟨o3, c3, rfl⟩ := own_slice hown
      have hgrow : (w2.alloc (.cells #[.int .i64 (baseOf p j : Int)] 3)).grownBy w3 (Value.slice ob (bsTo p j).length obc).ownBlock := by
        rw [hbsl]; exact hgrow
      have hb3 := PB.box.grown hgrow PB.gb
      have p19 : w3.cell? ⟨g, 19, none⟩ = some (.slice ob j obc) ∧ w3.frozen? ⟨g, 19, none⟩ = false := ⟨by rw [hb3.cell]; simp [machL, start, hbsl], hb3.frozen 19⟩
      have p17 : w3.cell? ⟨g, 17, none⟩ = some (.slice ow (baseOf p j) owc) ∧ w3.frozen? ⟨g, 17, none⟩ = false := ⟨by rw [hb3.cell]; simp [machL, start, Hwl.out], hb3.frozen 17⟩
      have P3 := PB.bases_ (bs := bsTo p j ++ [(baseOf p j : Int)]) (vB' := .slice o3 (j + 1) c3) hgrow (by simpa [hbsl] using hown)
      have X3 := Lib.hid (((X3.out.grown hgrow (own_base PB.bs))).setCell (p := ⟨g, 19, none⟩) PB.hg (.slice o3 (j + 1) c3))
      have hwo : (w3.setCell ⟨g, 19, none⟩ (.slice o3 (j + 1) c3)).ownsRow w.heap.size 2 1 (.slice ow (baseOf p j) owc) (baseOf p j) (((m.take j).flatten).map (Value.int .i64)) := by
        have := P3.ws
        simp only [Hwl.out] at this
        exact this
      have P3 := Lib.hid P3
      have Hsrc : Hid (Src (w3.setCell ⟨g, 19, none⟩ (.slice o3 (j + 1) c3)) 1 ol L (l.map (Value.int .i64))) := Lib.hid (by
        have := src_ints .i64 (Hlr.out.ext X3.out)
        rw [hlj] at this
        exact this)
      clear g17 g19 hb3 hown hgrow PB hbo
      have hg3 := P3.out.box.lt
      go_wp2_with (at_builtin; refine wpList_append_src _ rfl _ _ 71 rfl w.heap.size 2 i0 _ 1 8 Try.underlying71 hi0 hz0 hz1 hz2 rfl (by decide) _ _ _ rfl hwo ol L lcap (l.map (Value.int .i64)) rfl ?d1 ?d3 ?d4 ?d5 ?_)
      case d1 => exact Hsrc.out
      case d3 => unfold maxLen; omega
      case d4 => omega
      case d5 => exact X3.out.size
      intro v2 w4 hown2 hgrow2 hat2
      clear hat2
      obtain ⟨o4, c4, rfl⟩ := own_slice hown2
      have hgr : (w3.setCell ⟨g, 19, none⟩ (.slice o3 (j + 1) c3)).grownBy w4 (Value.slice ow ({ start [] with words := (m.take j).flatten } : Mach).words.length owc).ownBlock := by
        simp only [Hwl.out]; exact hgrow2
      have hb4 := P3.out.box.grown hgr P3.out.gw
      have q17 : w4.cell? ⟨g, 17, none⟩ = some (.slice ow (baseOf p j) owc) ∧ w4.frozen? ⟨g, 17, none⟩ = false := ⟨by rw [hb4.cell]; simp [machL, start, Hwl.out], hb4.frozen 17⟩
      have P4 := Lib.hid (P3.out.words_ (ws := (m.take j).flatten ++ l) (vW' := .slice o4 (baseOf p j + L) c4) hgr (by simpa [Hwl.out, hlj] using hown2))
      have X4 := Lib.hid ((X3.out.grown hgrow2 (own_base hwo)).setCell (p := ⟨g, 17, none⟩) P3.out.hg (.slice o4 (baseOf p j + L) c4))
      clear hb4 hgr hown2 hgrow2 hwo p17 p19
      go_wp2
      go_roundw
      case rel => exact ⟨j + 1, _, _, by omega, by go_num, by rw [Hbs.out, Hnext.out]; exact P4.out, X4.out⟩
      case measure => first | (simp [intOf]; done) | (simp [intOf]; omega)
    · have hje : j = m.length := by omega
      subst hje
      have hlt2 : decide ((m.length : Int) < (m.length : Int)) = false := by simp
      have HB : Hid (bsTo p m.length = basesOf p) := Lib.hid (by rw [Hl1.out]; rfl)
      have HF : Hid ((m.take m.length).flatten = m.flatten) := Lib.hid (by rw [List.take_length])
      go_wp2
      go_ret
      refine ⟨g, vB, vW, rfl, ?_, X.out⟩
      have := PP.out
      rw [HB.out, HF.out] at this
      exact this
end Go.Proofs.Yteiknefajlocoaa
/- Walks of layout's look, May, Hard, Fits. -/
namespace Go.Proofs.Yteiknefajlocoaa
open Go.ChangeShapes Go.WideShapes Go.ChangeAt Go.RowKit
set_option linter.unusedVariables false
set_option linter.unusedSimpArgs false

theorem Rows.upd {w w' : World} {oa : Option Addr} {b o n c : Nat} {f : Nat → Nat → Value} {p : Addr} {v : Value} (h : Rows w oa b o n c f) (hp : p.block ≠ b) (hx : Ext (w.setCell p v) w') : Rows w' oa b o n c f :=
  ⟨h.at_, fun i j hi hj => upd_cell hx (by rintro rfl; exact hp rfl) (h.cell i j hi hj)⟩
theorem lt_of_rows {w : World} {oa : Option Addr} {b o n c : Nat} {f : Nat → Nat → Value} (h : Rows w oa b o n c f) (hn : 0 < n) (hc : 0 < c) : b < w.heap.size := by
  have := block_lt (h.cell 0 0 hn hc)
  exact this
/-- a slice of nothing may as well lie at any block -/
theorem Rows.away {w : World} {oa : Option Addr} {b o n c : Nat} {f : Nat → Nat → Value} (h : Rows w oa b o n c f) (hc : 0 < c) (g : Nat) (hg : w.heap.size ≤ g) : ∃ b', b' ≠ g ∧ Rows w oa b' o n c f := by
  by_cases hn : 0 < n
  · exact ⟨b, by have := lt_of_rows h hn hc; omega, h⟩
  · refine ⟨g + 1, by omega, ⟨fun h0 => absurd h0 hn, fun i j hi hj => by omega⟩⟩
theorem one_le_cast (n : Nat) : decide (1 ≤ n) = decide ((1 : Int) ≤ (n : Int)) := by rw [Bool.eq_iff_iff]; simp; omega
set_option maxHeartbeats 4000000 in
theorem look_c (p : LProg) (v : Value) (most R : Int) (hm : R64 most) (hRr : R64 R) (w : World) (hp : ProgAt w v p) :
    Calls Try.prog 86 #[v, .int .i64 most, .int .i64 R] w fun e w' => e = .returned (.bool (progOk p most R)) ∧ Ext w w' := by
  have hp' := hp
  obtain ⟨v1, v2, rfl, ⟨hb, oa, cap, b, o, rfl, hc1, hc2, hrow⟩, ⟨hf, ob, capb, b2, o2, rfl, hd1, hd2, hrow2⟩⟩ := hp
  have HP := Lib.hid hp'
  have hm0 := hm.1
  have hm1 := hm.2
  have Hrow := Lib.hid hrow
  have Hrow2 := Lib.hid hrow2
  have hlen := len_bd hc1 hc2
  have hlen2 := len_bd hd1 hd2
  have hix := index_code (cap := capb) hrow2.at_
  clear hrow hrow2 hc1 hc2 hd1 hd2 hp'
  go_enter Try.func86, Try.ntmps86
  go_upto_region 1 with fail
  obtain ⟨w0, g, hg, hW, hx, c0, c1⟩ := new2 w 25 (.slice oa p.regs.length cap) (.slice ob p.code.length capb)
  rw [hW, hg]
  have X0 := Lib.hid hx
  clear hW hx
  have hgs : w.heap.size ≤ g := by omega
  clear hg
  obtain ⟨ok0, Hok0⟩ : ∃ b : Bool, Hid (b = (regsOk p.regs && decide ((1 : Int) ≤ (p.code.length : Int)) && decide ((p.code.length : Int) ≤ most))) := ⟨_, Lib.hid rfl⟩
  go_cut [7] (fun s7 wx => ∃ k : Nat, s7 = .pointer (some ⟨k, 0, none⟩) ∧ w0.heap.size ≤ k ∧ Ext w0 wx ∧ Blk wx k 157 #[.slice oa p.regs.length cap, .slice ob p.code.length capb, .int .i64 R, .bool ok0])
  case first =>
    have k0 : ∀ W, Ext w0 W → W.cell? ⟨g, 0, none⟩ = some (.slice oa p.regs.length cap) := fun _ h => h.kept c0.1
    have k1 : ∀ W, Ext w0 W → W.cell? ⟨g, 1, none⟩ = some (.slice ob p.code.length capb) := fun _ h => h.kept c1.1
    have HC : ∀ W, Ext w0 W → Hid (Calls Try.prog 121 #[.agg #[.slice oa p.regs.length cap, .slice ob p.code.length capb]] W fun e w' => e = .returned (.bool (regsOk p.regs)) ∧ Ext W w') := fun W h => Lib.hid (regions_c p _ W (HP.out.ext (X0.out.trans h)))
    refine region_fresh 19 18 (some 28) (by decide) rfl (by kernel_rfl) (by kernel_rfl) (fun k => .pointer (some ⟨k, 0, none⟩)) 157 #[.slice oa p.regs.length cap, .slice ob p.code.length capb, .int .i64 R, .bool ok0] ?_
    simp only [List.take_succ_cons, List.take_zero, List.drop_succ_cons, List.drop_zero]
    cases hr : regsOk p.regs
    · have hk0 : ok0 = false := by rw [Hok0.out, hr]; rfl
      rw [hr] at HC
      clear hr Hok0
      subst hk0
      repeat (first | (refine calm_fresh ?_ ?_ (fun wc hE => ?_) ?_; (decide); rfl; (focus (go_simp; done)); go_simp) | (refine calm_value ?_ ?_ ?_; (decide); (first | rfl | (focus (go_simp; done))); apply Exists.intro; refine ⟨fun wc hE => ?_, ?_⟩; (go_simp; exact rfl); go_simp) | (refine calm_call ?_ ?_ ?_; (decide); (first | rfl | (focus (go_simp; done))); apply Exists.intro; refine ⟨fun wc hE => ?_, ?_⟩; (go_simp; (first | (with_reducible exact calm_enter ((HC _ ‹_›).out)))); go_simp) | (refine calm_skip ?_ ?_ ?_; (decide); (focus (go_simp; done)); go_simp))
      refine calm_nil ?_
      intro k wx hk hB hE
      go_wp2
      go_meet
      exact ⟨k, rfl, hk, hE, hB⟩
    · rw [hr] at HC
      by_cases h1 : (1 : Int) ≤ (p.code.length : Int)
      · by_cases h2 : (p.code.length : Int) ≤ most
        · have hk0 : ok0 = true := by rw [Hok0.out, hr]; simp [h1, h2]
          clear hr Hok0
          subst hk0
          repeat (first | (refine calm_fresh ?_ ?_ (fun wc hE => ?_) ?_; (decide); rfl; (focus (go_simp; done)); go_simp) | (refine calm_value ?_ ?_ ?_; (decide); (first | rfl | (focus (go_simp; done))); apply Exists.intro; refine ⟨fun wc hE => ?_, ?_⟩; (go_simp; exact rfl); go_simp) | (refine calm_call ?_ ?_ ?_; (decide); (first | rfl | (focus (go_simp; done))); apply Exists.intro; refine ⟨fun wc hE => ?_, ?_⟩; (go_simp; (first | (with_reducible exact calm_enter ((HC _ ‹_›).out)))); go_simp) | (refine calm_skip ?_ ?_ ?_; (decide); (focus (go_simp; done)); go_simp))
          refine calm_nil ?_
          intro k wx hk hB hE
          go_wp2
          go_meet
          exact ⟨k, rfl, hk, hE, hB⟩
        · have hk0 : ok0 = false := by rw [Hok0.out, hr]; simp [h1, h2]
          have h2' : decide ((p.code.length : Int) ≤ most) = false := by simpa using h2
          clear hr Hok0 h2
          subst hk0
          repeat (first | (refine calm_fresh ?_ ?_ (fun wc hE => ?_) ?_; (decide); rfl; (focus (go_simp; done)); go_simp) | (refine calm_value ?_ ?_ ?_; (decide); (first | rfl | (focus (go_simp; done))); apply Exists.intro; refine ⟨fun wc hE => ?_, ?_⟩; (go_simp; exact rfl); go_simp) | (refine calm_call ?_ ?_ ?_; (decide); (first | rfl | (focus (go_simp; done))); apply Exists.intro; refine ⟨fun wc hE => ?_, ?_⟩; (go_simp; (first | (with_reducible exact calm_enter ((HC _ ‹_›).out)))); go_simp) | (refine calm_skip ?_ ?_ ?_; (decide); (focus (go_simp; done)); go_simp))
          refine calm_nil ?_
          intro k wx hk hB hE
          go_wp2
          go_meet
          exact ⟨k, rfl, hk, hE, hB⟩
      · have hk0 : ok0 = false := by rw [Hok0.out, hr]; simp [h1]
        have h1' : decide ((1 : Int) ≤ (p.code.length : Int)) = false := by simpa using h1
        clear hr Hok0 h1
        subst hk0
        repeat (first | (refine calm_fresh ?_ ?_ (fun wc hE => ?_) ?_; (decide); rfl; (focus (go_simp; done)); go_simp) | (refine calm_value ?_ ?_ ?_; (decide); (first | rfl | (focus (go_simp; done))); apply Exists.intro; refine ⟨fun wc hE => ?_, ?_⟩; (go_simp; exact rfl); go_simp) | (refine calm_call ?_ ?_ ?_; (decide); (first | rfl | (focus (go_simp; done))); apply Exists.intro; refine ⟨fun wc hE => ?_, ?_⟩; (go_simp; (first | (with_reducible exact calm_enter ((HC _ ‹_›).out)))); go_simp) | (refine calm_skip ?_ ?_ ?_; (decide); (focus (go_simp; done)); go_simp))
        refine calm_nil ?_
        intro k wx hk hB hE
        go_wp2
        go_meet
        exact ⟨k, rfl, hk, hE, hB⟩
  case rest =>
  obtain ⟨k, rfl, hk, hE, hB⟩ := hcut
  have g0 : wc.cell? ⟨k, 0, none⟩ = some (.slice oa p.regs.length cap) := by rw [hB.cell]; rfl
  have g1 : wc.cell? ⟨k, 1, none⟩ = some (.slice ob p.code.length capb) := by rw [hB.cell]; rfl
  have g2 : wc.cell? ⟨k, 2, none⟩ = some (.int .i64 R) := by rw [hB.cell]; rfl
  have g3 : wc.cell? ⟨k, 3, none⟩ = some (.bool ok0) ∧ wc.frozen? ⟨k, 3, none⟩ = false := ⟨by rw [hB.cell]; rfl, hB.frozen 3⟩
  have c0 := kept2 hE c0
  have c1 := kept2 hE c1
  have XC := Lib.hid (X0.out.trans hE)
  have hks : w.heap.size ≤ k := Nat.le_trans X0.out.size hk
  obtain ⟨b', hb', hR'⟩ := Hrow.out.away (by omega) k hks
  have HR := Lib.hid (hR'.ext XC.out)
  clear hB hE hk hR'
  go_wp2_with fail
  go_loopw [32] (fun i wr => ∃ j : Nat, j ≤ p.code.length ∧ i = .int .i64 j ∧ Ext (wc.setCell ⟨k, 3, none⟩ (.bool (ok0 && (p.code.take j).all (insOk p R)))) wr) (fun i _ => p.code.length - (intOf i).toNat)
  case atStart => exact ⟨0, by omega, rfl, by simpa using upd_refl g3.1 (Ext.refl _)⟩
  case round =>
    obtain ⟨j, hj, rfl, hr⟩ := hrel
    have r0 := upd_cell hr (by simp) g0
    have r1 := upd_cell hr (by simp) g1
    have r2 := upd_cell hr (by simp) g2
    have r3 := upd_same hr g3
    have Hr := Lib.hid hr
    have EW := Lib.hid (upd_new hr XC.out hks)
    clear hr
    by_cases hlt : j < p.code.length
    · obtain ⟨e0, e1, e2, e3, e4⟩ := (Hrow2.out.ext EW.out).ins j hlt
      have hfi := hf _ (getD_mem hlt)
      have Hs := Lib.hid (take_and (insOk p R) p.code j default hlt ok0)
      have Hfalse := Lib.hid (all_false (insOk p R) p.code j default hlt)
      generalize p.code.getD j default = i at *
      obtain ⟨okj, Hokj⟩ : ∃ b : Bool, Hid (b = (ok0 && (p.code.take j).all (insOk p R))) := ⟨_, Lib.hid rfl⟩
      rw [← Hokj.out] at r3 Hr Hs
      have hkl : k < wr.heap.size := block_lt r3.1
      cases okj
      · go_wp2
        go_ret
        refine ⟨ret_b ?_, EW.out.alloc _⟩
        have hz := Hokj.out
        have ht : (ok0 && p.code.all (insOk p R)) = false := by
          rw [← List.take_append_drop j p.code, List.all_append, ← Bool.and_assoc, ← hz]; rfl
        unfold progOk
        rw [← ht, Hok0.out]
        rw [one_le_cast]
      · have hreg : true = true → ∀ r ∈ p.regs, 0 ≤ r.log ∧ r.log ≤ 6 := fun _ => by
          have hz := Hokj.out.symm
          rw [Hok0.out] at hz
          simp only [Bool.and_eq_true] at hz
          have h1 := hz.1.1.1
          simp only [regsOk, Bool.and_eq_true, List.all_eq_true] at h1
          intro r hr
          have := h1.1 r hr
          simpa [regOk] using this
        have hA := (Ext.refl wr).alloc (.cells #[.int .i64 i.op, .int .i64 i.a, .int .i64 i.b, .int .i64 i.c, .int .i64 i.n] 70)
        have C := ins_c k oa cap ob capb R true p i hfi (wr.alloc (.cells #[.int .i64 i.op, .int .i64 i.a, .int .i64 i.b, .int .i64 i.c, .int .i64 i.n] 70)) b' o (Ne.symm hb') ((HR.out.upd (Ne.symm hb') Hr.out).ext hA) hreg (hA.kept r0) (hA.kept r1) (hA.kept r2) (kept2 hA r3)
        have HC := Lib.hid C
        clear C hA hreg
        go_wp2_with fail
        (with_reducible refine HC.out.mono ?_)
        rintro e' w2 ⟨rfl, hx⟩
        have hfin := Lib.hid (upd_trans Hr.out (upd_after ((Ext.refl wr).alloc _) hx))
        rw [← Hs.out] at hfin
        clear hx HC
        go_wp2
        go_roundw
        case rel => exact ⟨j + 1, by omega, by go_num, hfin.out⟩
        case measure => first | (simp [intOf]; done) | (simp [intOf]; omega)
    · have hje : j = p.code.length := by omega
      subst hje
      rw [List.take_length] at r3
      go_wp2
      go_ret
      refine ⟨ret_b ?_, EW.out⟩
      unfold progOk
      rw [Hok0.out]
      rw [one_le_cast]

theorem may_c (p : LProg) (v : Value) (w : World) (hp : ProgAt w v p) :
    Calls Try.prog 50 #[v] w fun e w' => e = .returned (.bool (mayOk p)) ∧ Ext w w' := by
  have HP := Lib.hid hp
  obtain ⟨v1, v2, rfl, -⟩ := hp
  go_enter Try.func50, Try.ntmps50
  go_wp2_with fail
  have hA := (Ext.refl w).alloc (.cells #[v1, v2] 25)
  have C := look_c p _ 200 8 (by unfold R64; omega) (by unfold R64; omega) _ (HP.out.ext hA)
  (with_reducible refine C.mono ?_)
  rintro e w1 ⟨rfl, hx⟩
  have HX := Lib.hid (hA.trans hx)
  clear hx hA C
  go_wp2
  go_ret
  exact ⟨rfl, HX.out⟩
theorem hard_c (p : LProg) (v : Value) (w : World) (hp : ProgAt w v p) :
    Calls Try.prog 103 #[v] w fun e w' => e = .returned (.bool (hardOk p)) ∧ Ext w w' := by
  have HP := Lib.hid hp
  obtain ⟨v1, v2, rfl, -⟩ := hp
  go_enter Try.func103, Try.ntmps103
  go_wp2_with fail
  have hA := (Ext.refl w).alloc (.cells #[v1, v2] 25)
  have C := look_c p _ 8000 10 (by unfold R64; omega) (by unfold R64; omega) _ (HP.out.ext hA)
  (with_reducible refine C.mono ?_)
  rintro e w1 ⟨rfl, hx⟩
  have HX := Lib.hid (hA.trans hx)
  clear hx hA C
  go_wp2
  go_ret
  exact ⟨rfl, HX.out⟩
end Go.Proofs.Yteiknefajlocoaa
/- Walks of Fits, of layout and of the reference. -/
namespace Go.Proofs.Yteiknefajlocoaa
open Go.ChangeShapes Go.WideShapes Go.ChangeAt Go.RowKit
set_option linter.unusedVariables false
set_option linter.unusedSimpArgs false

theorem index_mem {oa : Option Addr} {n b o cap : Nat} (h : 0 < n → oa = some ⟨b, o, none⟩) (W : World) (i : Int) (h0 : 0 ≤ i) (h1 : i < n) :
    (Instr.indexAt 31 (.slice oa n cap) (.int .i64 i)).run Try.prog W = .ok (.pointer (some ⟨b, o + i.toNat, none⟩)) W := by
  obtain rfl := h (by omega)
  have hs : (Try.prog.info? 71).map (·.size) = some 1 := by kernel_rfl
  simp [Instr.indexAt, run_underlying Try.underlying31, asIntOf, h0, h1]
  exact addr_add b o _
def fitOne (p : LProg) (m : List (List Int)) (i : Nat) : Bool := decide ((m.getD i default).length = wordsOf (p.regs.getD i default))
theorem take_range (f : Nat → Bool) (k n : Nat) (hk : k < n) (h : (List.range k).all f = true) : (List.range (k + 1)).all f = f k := by
  rw [List.range_succ, List.all_append, h]; simp
theorem range_false (f : Nat → Bool) (k n : Nat) (hk : k < n) (h : f k = false) : (List.range n).all f = false := by
  rw [List.all_eq_false]; exact ⟨k, List.mem_range.2 hk, by simp [h]⟩
theorem fits_eq (p : LProg) (m : List (List Int)) : fitsOk p m = (regsOk p.regs && decide (m.length = p.regs.length) && (List.range p.regs.length).all (fitOne p m)) := rfl
theorem logs_ok {l : List LReg} (h : regsOk l = true) : ∀ r ∈ l, 0 ≤ r.log ∧ r.log ≤ 6 := by
  intro r hr
  simp only [regsOk, Bool.and_eq_true, List.all_eq_true] at h
  have := h.1 r hr
  simpa [regOk] using this
theorem words64 {r : LReg} (h : r.log ≤ 6) : wordsOf r ≤ 64 := by
  unfold wordsOf
  exact Nat.le_trans (Nat.pow_le_pow_right (by omega) (show r.log.toNat ≤ 6 by omega)) (by decide)
set_option maxHeartbeats 4000000 in
theorem lFits_c (p : LProg) (v : Value) (m : List (List Int)) (vm : Value) (w : World) (hp : ProgAt w v p) (hm : MemAt w vm m) :
    Calls Try.prog 104 #[v, vm] w fun e w' => e = .returned (.bool (fitsOk p m)) ∧ Ext w w' := by
  have hp' := hp
  have hm' := hm
  obtain ⟨v1, v2, rfl, ⟨hb, oa, cap, b, o, rfl, hc1, hc2, hrow⟩, hcode⟩ := hp
  obtain ⟨om, capm, bm, um, rfl, hd1, hd2, vs, hrow2, hvs⟩ := hm
  have HP := Lib.hid hp'
  have hlen := len_bd hc1 hc2
  have hlen2 := len_bd hd1 hd2
  have hix := index_regs (cap := cap) hrow.at_
  have hixm := index_mem (cap := capm) hrow2.at_
  have Hrow := Lib.hid hrow
  have Hrow2 := Lib.hid hrow2
  have Hvs := Lib.hid hvs
  have Hgoal : ∀ r : Bool, Hid (r = fitsOk p m → Ending.returned (.bool r) = .returned (.bool (fitsOk p m))) := fun r => Lib.hid fun h => by rw [h]
  clear hrow hrow2 hc1 hc2 hd1 hd2 hp' hcode hvs hm'
  go_enter Try.func104, Try.ntmps104
  go_wp2_with fail
  obtain ⟨w0, g, hg, hW, hx, c0, c1⟩ := new2 w 25 (.slice oa p.regs.length cap) v2
  rw [hW, hg]
  have X := Lib.hid hx
  clear hW hg hx
  have C := regions_c p _ w0 (HP.out.ext X.out)
  cases hr : regsOk p.regs
  · rw [hr] at C
    have Hr := Lib.hid hr
    clear hr
    (with_reducible refine C.mono ?_)
    rintro e w1 ⟨rfl, h1⟩
    have X := Lib.hid (X.out.trans h1)
    clear h1 C
    go_wp2
    go_ret
    exact ⟨(Hgoal _).out (by simp [fits_eq, Hr.out]), X.out⟩
  rw [hr] at C
  have Hr := Lib.hid hr
  clear hr
  (with_reducible refine C.mono ?_)
  rintro e w1 ⟨rfl, h1⟩
  have X := Lib.hid (X.out.trans h1)
  have c0 := kept2 h1 c0
  have c1 := kept2 h1 c1
  clear h1 C
  by_cases q0 : m.length = p.regs.length
  rotate_left
  · have q0d : ((m.length : Int) != (p.regs.length : Int)) = true := by simp; omega
    have Q := Lib.hid q0
    clear q0
    go_wp2
    go_ret
    exact ⟨(Hgoal _).out (by simp [fits_eq, Q.out]), X.out⟩
  have q0d : ((m.length : Int) != (p.regs.length : Int)) = false := by simp; omega
  have Q := Lib.hid q0
  have hml : m.length ≤ p.regs.length ∧ p.regs.length ≤ m.length := by omega
  clear q0
  go_wp2_with fail
  go_loopw [21] (fun i wr => ∃ j : Nat, j ≤ p.regs.length ∧ i = .int .i64 j ∧ Ext w1 wr ∧ (List.range j).all (fitOne p m) = true) (fun i _ => p.regs.length - (intOf i).toNat)
  case atStart => exact ⟨0, by omega, rfl, Ext.refl _, by simp⟩
  case round =>
    obtain ⟨j, hj, rfl, hE, hall⟩ := hrel
    have c0 := kept2 hE c0
    have c1 := kept2 hE c1
    have X := Lib.hid (X.out.trans hE)
    have HE := Lib.hid hE
    have Hall := Lib.hid hall
    clear hE hall
    by_cases hlt : j < p.regs.length
    · obtain ⟨e0, e1⟩ := (Hrow.out.ext X.out).reg j hlt
      have hjm : j < m.length := by omega
      have f0 := (Hrow2.out.ext X.out).one j hjm
      obtain ⟨-, oj, capj, bj, uj, hvj, hj1, hj2, -⟩ := Hvs.out j hjm
      rw [hvj] at f0
      clear hvj
      have hlj := len_bd hj1 hj2
      have hlog := logs_ok Hr.out _ (getD_mem hlt)
      have Hs := Lib.hid (take_range (fitOne p m) j p.regs.length hlt Hall.out)
      have Hfalse := Lib.hid (range_false (fitOne p m) j p.regs.length hlt)
      have Hone : Hid (fitOne p m j = decide ((m.getD j default).length = wordsOf (p.regs.getD j default))) := Lib.hid rfl
      have Hw := Lib.hid (words64 hlog.2)
      generalize p.regs.getD j default = r at *
      generalize hmj : (m.getD j default).length = lm at *
      clear hmj hj1 hj2
      go_upto_region 6 with fail
      obtain ⟨w2, hw2⟩ : ∃ w2, w2 = wr.alloc (.cells #[.int .i64 r.log, .bool r.secret] 68) := ⟨_, rfl⟩
      have bR : Blk w2 wr.heap.size 68 #[.int .i64 r.log, .bool r.secret] := by rw [hw2]; exact Blk.new wr _ _
      have h2 : Ext wr w2 := by rw [hw2]; exact (Ext.refl wr).alloc _
      rw [← hw2]
      clear hw2
      have r0 : w2.cell? ⟨wr.heap.size, 0, none⟩ = some (.int .i64 r.log) := by rw [bR.cell]; rfl
      have r1 : w2.cell? ⟨wr.heap.size, 1, none⟩ = some (.bool r.secret) := by rw [bR.cell]; rfl
      generalize wr.heap.size = kr at *
      have k0 : ∀ W, Ext w2 W → W.cell? ⟨kr, 0, none⟩ = some (.int .i64 r.log) := fun _ h => h.kept r0
      have k1 : ∀ W, Ext w2 W → W.cell? ⟨kr, 1, none⟩ = some (.bool r.secret) := fun _ h => h.kept r1
      have k2 : ∀ W, Ext w2 W → W.cell? ⟨bm, um + j, none⟩ = some (.slice oj lm capj) := fun _ h => h.kept (h2.kept f0)
      have X := Lib.hid (X.out.trans h2)
      have HE := Lib.hid (HE.out.trans h2)
      have c0 := kept2 h2 c0
      have c1 := kept2 h2 c1
      clear h2 e0 e1 f0 r0 r1 bR
      have hjm' : (j : Int) < (m.length : Int) := by omega
      refine region_calm 8 (by kernel_rfl) (by kernel_rfl) ?_
      simp only [List.take_succ_cons, List.take_zero, List.drop_succ_cons, List.drop_zero]
      repeat (first | (refine calm_fresh ?_ ?_ (fun wc hE => ?_) ?_; (decide); rfl; (focus (go_simp; done)); go_simp) | (refine calm_value ?_ ?_ ?_; (decide); (first | rfl | (focus (go_simp; done))); apply Exists.intro; refine ⟨fun wc hE => ?_, ?_⟩; (go_simp; exact rfl); go_simp) | (refine calm_call ?_ ?_ ?_; (decide); (first | rfl | (focus (go_simp; done))); apply Exists.intro; refine ⟨fun wc hE => ?_, ?_⟩; (go_simp; (first | (with_reducible exact calm_enter (words_c r hlog.1 hlog.2 _)))); go_simp) | (refine calm_skip ?_ ?_ ?_; (decide); (focus (go_simp; done)); go_simp))
      refine calm_nil ?_
      intro wx hx
      have HX := Lib.hid (HE.out.trans hx)
      have X := Lib.hid (X.out.trans hx)
      clear hx k0 k1 k2
      by_cases hq : lm = wordsOf r
      · have hqd : ((lm : Int) != ((wordsOf r : Nat) : Int)) = false := by simp; omega
        have HQ := Lib.hid hq
        clear hq
        go_wp2
        go_roundw
        case rel => exact ⟨j + 1, by omega, by go_num, HX.out, by rw [Hs.out, Hone.out]; simp [HQ.out]⟩
        case measure => first | (simp [intOf]; done) | (simp [intOf]; omega)
      · have hqd : ((lm : Int) != ((wordsOf r : Nat) : Int)) = true := by simp; omega
        have HQ := Lib.hid hq
        clear hq
        go_wp2
        go_ret
        exact ⟨(Hgoal _).out (by rw [fits_eq, Hfalse.out (by rw [Hone.out]; simp [HQ.out]), Bool.and_false]), X.out⟩
    · have hje : j = p.regs.length := by omega
      subst hje
      have hjm : m.length ≤ p.regs.length := by omega
      go_wp2
      go_ret
      exact ⟨(Hgoal _).out (by simp [fits_eq, Hr.out, Q.out, Hall.out]), X.out⟩
set_option maxHeartbeats 4000000 in
theorem rFits_c (p : LProg) (v : Value) (m : List (List Int)) (vm : Value) (w : World) (hp : ProgAt w v p) (hm : MemAt w vm m) :
    Calls Try.prog 27 #[v, vm] w fun e w' => e = .returned (.bool (fitsOk p m)) ∧ Ext w w' := by
  have hp' := hp
  have hm' := hm
  obtain ⟨v1, v2, rfl, ⟨hb, oa, cap, b, o, rfl, hc1, hc2, hrow⟩, hcode⟩ := hp
  obtain ⟨om, capm, bm, um, rfl, hd1, hd2, vs, hrow2, hvs⟩ := hm
  have HP := Lib.hid hp'
  have hlen := len_bd hc1 hc2
  have hlen2 := len_bd hd1 hd2
  have hix := index_regs (cap := cap) hrow.at_
  have hixm := index_mem (cap := capm) hrow2.at_
  have Hrow := Lib.hid hrow
  have Hrow2 := Lib.hid hrow2
  have Hvs := Lib.hid hvs
  have Hgoal : ∀ r : Bool, Hid (r = fitsOk p m → Ending.returned (.bool r) = .returned (.bool (fitsOk p m))) := fun r => Lib.hid fun h => by rw [h]
  clear hrow hrow2 hc1 hc2 hd1 hd2 hp' hcode hvs hm'
  go_enter Try.func27, Try.ntmps27
  go_wp2_with fail
  obtain ⟨w0, g, hg, hW, hx, c0, c1⟩ := new2 w 25 (.slice oa p.regs.length cap) v2
  rw [hW, hg]
  have X := Lib.hid hx
  clear hW hg hx
  have C := rRegions_c p _ w0 (HP.out.ext X.out)
  cases hr : regsOk p.regs
  · rw [hr] at C
    have Hr := Lib.hid hr
    clear hr
    (with_reducible refine C.mono ?_)
    rintro e w1 ⟨rfl, h1⟩
    have X := Lib.hid (X.out.trans h1)
    clear h1 C
    go_wp2
    go_ret
    exact ⟨(Hgoal _).out (by simp [fits_eq, Hr.out]), X.out⟩
  rw [hr] at C
  have Hr := Lib.hid hr
  clear hr
  (with_reducible refine C.mono ?_)
  rintro e w1 ⟨rfl, h1⟩
  have X := Lib.hid (X.out.trans h1)
  have c0 := kept2 h1 c0
  have c1 := kept2 h1 c1
  clear h1 C
  by_cases q0 : m.length = p.regs.length
  rotate_left
  · have q0d : ((m.length : Int) != (p.regs.length : Int)) = true := by simp; omega
    have Q := Lib.hid q0
    clear q0
    go_wp2
    go_ret
    exact ⟨(Hgoal _).out (by simp [fits_eq, Q.out]), X.out⟩
  have q0d : ((m.length : Int) != (p.regs.length : Int)) = false := by simp; omega
  have Q := Lib.hid q0
  have hml : m.length ≤ p.regs.length ∧ p.regs.length ≤ m.length := by omega
  clear q0
  go_wp2_with fail
  go_loopw [5] (fun i wr => ∃ j : Nat, j ≤ p.regs.length ∧ i = .int .i64 j ∧ Ext w1 wr ∧ (List.range j).all (fitOne p m) = true) (fun i _ => p.regs.length - (intOf i).toNat)
  case atStart => exact ⟨0, by omega, rfl, Ext.refl _, by simp⟩
  case round =>
    obtain ⟨j, hj, rfl, hE, hall⟩ := hrel
    have c0 := kept2 hE c0
    have c1 := kept2 hE c1
    have X := Lib.hid (X.out.trans hE)
    have HE := Lib.hid hE
    have Hall := Lib.hid hall
    clear hE hall
    by_cases hlt : j < p.regs.length
    · obtain ⟨e0, e1⟩ := (Hrow.out.ext X.out).reg j hlt
      have hjm : j < m.length := by omega
      have f0 := (Hrow2.out.ext X.out).one j hjm
      obtain ⟨-, oj, capj, bj, uj, hvj, hj1, hj2, -⟩ := Hvs.out j hjm
      rw [hvj] at f0
      clear hvj
      have hlj := len_bd hj1 hj2
      have hlog := logs_ok Hr.out _ (getD_mem hlt)
      have Hs := Lib.hid (take_range (fitOne p m) j p.regs.length hlt Hall.out)
      have Hfalse := Lib.hid (range_false (fitOne p m) j p.regs.length hlt)
      have Hone : Hid (fitOne p m j = decide ((m.getD j default).length = wordsOf (p.regs.getD j default))) := Lib.hid rfl
      have Hw := Lib.hid (words64 hlog.2)
      generalize p.regs.getD j default = r at *
      generalize hmj : (m.getD j default).length = lm at *
      clear hmj hj1 hj2
      have hjm' : (j : Int) < (m.length : Int) := by omega
      have C := rWords_c r hlog.1 hlog.2 wr
      go_wp2_with fail
      (with_reducible refine C.mono ?_)
      clear C
      rintro e' w2 ⟨rfl, h2⟩
      have f0 := h2.kept f0
      have X := Lib.hid (X.out.trans h2)
      have HE := Lib.hid (HE.out.trans h2)
      clear h2 e0 e1
      by_cases hq : lm = wordsOf r
      · have hqd : ((lm : Int) != ((wordsOf r : Nat) : Int)) = false := by simp; omega
        have HQ := Lib.hid hq
        clear hq
        go_wp2
        go_roundw
        case rel => exact ⟨j + 1, by omega, by go_num, HE.out, by rw [Hs.out, Hone.out]; simp [HQ.out]⟩
        case measure => first | (simp [intOf]; done) | (simp [intOf]; omega)
      · have hqd : ((lm : Int) != ((wordsOf r : Nat) : Int)) = true := by simp; omega
        have HQ := Lib.hid hq
        clear hq
        go_wp2
        go_ret
        exact ⟨(Hgoal _).out (by rw [fits_eq, Hfalse.out (by rw [Hone.out]; simp [HQ.out]), Bool.and_false]), X.out⟩
    · have hje : j = p.regs.length := by omega
      subst hje
      have hjm : m.length ≤ p.regs.length := by omega
      go_wp2
      go_ret
      exact ⟨(Hgoal _).out (by simp [fits_eq, Hr.out, Q.out, Hall.out]), X.out⟩
end Go.Proofs.Yteiknefajlocoaa
