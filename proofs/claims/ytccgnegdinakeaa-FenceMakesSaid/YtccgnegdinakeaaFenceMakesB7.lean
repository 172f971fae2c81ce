/- Laid together from: FenL, Ref6P, PubL. -/
import Derived.Test.YtccgnegdinakeaaFenceMakesB6
import Derived.Test.YtccgnegdinakeaaFenceMakesB3

/- The making of a fenced program, step by step, as plain functions. No program in sight. -/
namespace Go.Proofs.Ytccgnegdinakeaa
open Go.RowKit
set_option linter.unusedSimpArgs false
set_option linter.unusedVariables false

def rel7 (p : LProg) (i : LIns) : LIns := if i.op = 7 then { i with n := (placeF p i.n.toNat : Nat) } else i
/-- the first places' numbers put, by any rule -/
def relG (f : LIns → LIns) (l : List LIns) (k : Nat) : List LIns := (l.take k).map f ++ l.drop k
theorem relG_zero (f : LIns → LIns) (l : List LIns) : relG f l 0 = l := by simp [relG]
theorem relG_all (f : LIns → LIns) (l : List LIns) : relG f l l.length = l.map f := by simp [relG]
theorem relG_len (f : LIns → LIns) (l : List LIns) (k : Nat) : (relG f l k).length = l.length := by
  simp only [relG, List.length_append, List.length_map, List.length_take, List.length_drop]
  omega
theorem relG_get (f : LIns → LIns) (l : List LIns) {k : Nat} (hk : k < l.length) : (relG f l k).getD k default = l.getD k default := by
  unfold relG
  rw [List.getD_eq_getElem?_getD, List.getElem?_append_right (by simp; omega)]
  simp [Nat.min_eq_left (Nat.le_of_lt hk), hk]
theorem relG_succ (f : LIns → LIns) (l : List LIns) {k : Nat} (hk : k < l.length) : relG f l (k + 1) = (relG f l k).set k (f (l.getD k default)) := by
  have e : l.drop k = l.getD k default :: l.drop (k + 1) := by
    rw [List.drop_eq_getElem_cons hk]
    simp [hk]
  have hlen : ((l.take k).map f).length = k := by simp; omega
  have h1 : l[k] = l.getD k default := by simp [hk]
  unfold relG
  rw [List.take_succ_eq_append_getElem hk, e, List.set_append_right _ _ (by omega), hlen, Nat.sub_self, List.set_cons_zero, List.map_append, List.append_assoc, h1]
  rfl
theorem relG_same (f : LIns → LIns) (l : List LIns) {k : Nat} (hk : k < l.length) (h : f (l.getD k default) = l.getD k default) : relG f l (k + 1) = relG f l k := by
  rw [relG_succ f l hk, h]
  apply List.ext_getElem (by simp)
  intro j h1 h2
  rw [List.getElem_set]
  split
  · rename_i e
    subst e
    have := relG_get f l hk
    rw [List.getD_eq_getElem?_getD, List.getElem?_eq_getElem h2] at this
    exact this.symm
  · rfl

/-- is it an IIf? -/
def isIf (p : LProg) (j : Nat) : Bool := decide ((p.code.getD j default).op = 8)
def ifsF (p : LProg) (n : Nat) : List Nat := (List.range n).filter (isIf p)
theorem ifs_succ (p : LProg) (n : Nat) : ifsF p (n + 1) = ifsF p n ++ (if isIf p n = true then [n] else []) := by
  unfold ifsF
  rw [List.range_succ, List.filter_append]
  cases h : isIf p n <;> simp [h]
/-- which IIf is the t-th, and which stand ahead of it -/
theorem ifs_at (p : LProg) : ∀ (n t : Nat), t < (ifsF p n).length → ∃ j, j < n ∧ isIf p j = true ∧ (ifsF p n).getD t 0 = j ∧ (ifsF p n).take t = ifsF p j
  | 0, t, h => by simp [ifsF] at h
  | n + 1, t, h => by
    rw [ifs_succ] at h ⊢
    by_cases ht : t < (ifsF p n).length
    · obtain ⟨j, h1, h2, h3, h4⟩ := ifs_at p n t ht
      refine ⟨j, by omega, h2, ?_, ?_⟩
      · rw [List.getD_eq_getElem?_getD, List.getElem?_append_left ht, ← List.getD_eq_getElem?_getD]
        exact h3
      · rw [List.take_append_of_le_length (by omega)]
        exact h4
    · cases hi : isIf p n
      · rw [hi] at h
        simp at h
        omega
      · rw [hi] at h
        simp only [if_true, List.length_append, List.length_cons, List.length_nil] at h ⊢
        have hte : t = (ifsF p n).length := by omega
        subst hte
        refine ⟨n, by omega, hi, ?_, ?_⟩
        · rw [List.getD_eq_getElem?_getD, List.getElem?_append_right (Nat.le_refl _)]
          simp
        · rw [List.take_append_of_le_length (Nat.le_refl _), List.take_length]
/-- instructions behind the second loop: jumps are put; of the IIfs those ahead of place j, with what stands behind all -/
def partF (p : LProg) (j : Nat) : List LIns := p.code.zipIdx.flatMap fun x => blockF (if x.2 < j then relF p x.2 x.1 else rel7 p x.1)
def stateF (p : LProg) (j : Nat) : List LIns := partF p j ++ (p.code.take j).flatMap (trampF p)
theorem rel7_op (p : LProg) (i : LIns) : (rel7 p i).op = i.op := by unfold rel7; split <;> simp
theorem rel7_fen (p : LProg) : rel7 p fenI = fenI := by unfold rel7 fenI; simp
theorem relF_not {p : LProg} {k : Nat} {i : LIns} (h : i.op ≠ 8) : relF p k i = rel7 p i := by
  unfold relF rel7
  simp [h]
theorem part_zero (p : LProg) : partF p 0 = (p.code.flatMap blockF).map (rel7 p) := by
  unfold partF
  have e1 : (fun x : LIns × Nat => blockF (if x.2 < 0 then relF p x.2 x.1 else rel7 p x.1)) = (fun i => (blockF i).map (rel7 p)) ∘ Prod.fst := by
    funext x
    simp only [Nat.not_lt_zero, if_false, Function.comp]
    unfold blockF
    rw [rel7_op]
    split
    · simp [rel7_fen]
    · simp
  have e2 : p.code.zipIdx.map Prod.fst = p.code := by
    apply List.ext_getElem (by simp)
    intro k h1 h2
    simp
  rw [e1, List.map_flatMap]
  conv => rhs; rw [← e2]
  rw [List.flatMap_map]
  rfl
theorem zip_split {p : LProg} {j : Nat} {i : LIns} (h : p.code[j]? = some i) : p.code.zipIdx = p.code.zipIdx.take j ++ (i, j) :: p.code.zipIdx.drop (j + 1) := by
  have hz := zip_get h
  obtain ⟨h1, h2⟩ := List.getElem?_eq_some_iff.1 hz
  conv => lhs; rw [← List.take_append_drop j p.code.zipIdx, List.drop_eq_getElem_cons h1, h2]
theorem zip_take {p : LProg} {j : Nat} : ∀ x ∈ p.code.zipIdx.take j, x.2 < j := by
  intro x hx
  obtain ⟨k, hk, rfl⟩ := List.getElem_of_mem hx
  simp only [List.length_take, List.length_zipIdx] at hk
  simp
  omega
theorem zip_drop {p : LProg} {j : Nat} : ∀ x ∈ p.code.zipIdx.drop j, j ≤ x.2 := by
  intro x hx
  obtain ⟨k, hk, rfl⟩ := List.getElem_of_mem hx
  simp
theorem part_split {p : LProg} {j : Nat} {i : LIns} (h : p.code[j]? = some i) (m : Nat) (hm : m = j ∨ m = j + 1) :
    partF p m = (p.code.zipIdx.take j).flatMap (fun x => blockF (relF p x.2 x.1)) ++ (blockF (if j < m then relF p j i else rel7 p i) ++ (p.code.zipIdx.drop (j + 1)).flatMap (fun x => blockF (rel7 p x.1))) := by
  unfold partF
  rw [zip_split h, List.flatMap_append, List.flatMap_cons]
  congr 1
  · rw [← zip_split h]
    have e : ∀ l : List (LIns × Nat), (∀ x ∈ l, x.2 < j) → l.flatMap (fun x => blockF (if x.2 < m then relF p x.2 x.1 else rel7 p x.1)) = l.flatMap fun x => blockF (relF p x.2 x.1) := by
      intro l hl
      induction l with
      | nil => rfl
      | cons x l ih =>
        rw [List.flatMap_cons, List.flatMap_cons, ih (fun y hy => hl y (by simp [hy])), if_pos (by have := hl x (by simp); omega)]
    exact e _ zip_take
  · congr 1
    rw [← zip_split h]
    have e : ∀ l : List (LIns × Nat), (∀ x ∈ l, j + 1 ≤ x.2) → l.flatMap (fun x => blockF (if x.2 < m then relF p x.2 x.1 else rel7 p x.1)) = l.flatMap fun x => blockF (rel7 p x.1) := by
      intro l hl
      induction l with
      | nil => rfl
      | cons x l ih =>
        rw [List.flatMap_cons, List.flatMap_cons, ih (fun y hy => hl y (by simp [hy])), if_neg (by have := hl x (by simp); omega)]
    exact e _ zip_drop
theorem take_len {p : LProg} (j : Nat) : ((p.code.zipIdx.take j).flatMap (fun x => blockF (relF p x.2 x.1))).length = placeF p j := place_zip p j
theorem part_len (p : LProg) (j : Nat) : (partF p j).length = rawF p := by
  have key : ∀ l : List (LIns × Nat), (l.flatMap fun x => blockF (if x.2 < j then relF p x.2 x.1 else rel7 p x.1)).length = (l.flatMap fun x => blockF x.1).length := by
    intro l
    induction l with
    | nil => rfl
    | cons x l ih =>
      rw [List.flatMap_cons, List.flatMap_cons, List.length_append, List.length_append, ih, blockF_len, blockF_len]
      split
      · rw [(relF_op p x.2 x.1).1]
      · rw [rel7_op]
  unfold partF rawF
  rw [key]
  have e2 : p.code.zipIdx.map Prod.fst = p.code := by
    apply List.ext_getElem (by simp)
    intro k h1 h2
    simp
  conv => rhs; rw [← e2]
  rw [List.flatMap_map]
theorem state_len (p : LProg) (j : Nat) : (stateF p j).length = otherF p j := by
  unfold stateF otherF
  rw [List.length_append, part_len]
  rfl
/-- an IIf's place, and what it says, ahead of its turn -/
theorem state_get {p : LProg} {j : Nat} {i : LIns} (h : p.code[j]? = some i) (h8 : i.op = 8) : placeF p j < (stateF p j).length ∧ (stateF p j).getD (placeF p j) default = i := by
  have hj := (List.getElem?_eq_some_iff.1 h).1
  have hp := placeF_lt hj
  have hl := part_len p j
  have e : rel7 p i = i := by unfold rel7; rw [if_neg (by omega)]
  refine ⟨by unfold stateF; rw [List.length_append]; omega, ?_⟩
  unfold stateF
  rw [List.getD_eq_getElem?_getD, List.getElem?_append_left (by omega), part_split h j (.inl rfl), if_neg (by omega), e, List.getElem?_append_right (by rw [take_len]; exact Nat.le_refl _), take_len, Nat.sub_self]
  unfold blockF
  rw [if_pos h8]
  rfl
/-- an IIf's turn -/
theorem state_step {p : LProg} {j : Nat} {i : LIns} (h : p.code[j]? = some i) (h8 : i.op = 8) :
    stateF p (j + 1) = (stateF p j).set (placeF p j) { i with n := ((stateF p j).length : Nat) } ++ [fenI, ⟨7, 0, 0, 0, ((placeF p i.n.toNat : Nat) : Int)⟩] := by
  obtain ⟨hj, hi⟩ := List.getElem?_eq_some_iff.1 h
  have hp := placeF_lt hj
  have hl := part_len p j
  rw [state_len]
  have e1 : (p.code.take (j + 1)).flatMap (trampF p) = (p.code.take j).flatMap (trampF p) ++ [fenI, ⟨7, 0, 0, 0, ((placeF p i.n.toNat : Nat) : Int)⟩] := by
    rw [List.take_succ_eq_append_getElem hj, List.flatMap_append, hi]
    simp [trampF, h8]
  have e2 : partF p (j + 1) = (partF p j).set (placeF p j) { i with n := ((otherF p j : Nat) : Int) } := by
    rw [part_split h (j + 1) (.inr rfl), part_split h j (.inl rfl), if_pos (by omega), if_neg (by omega)]
    rw [List.set_append_right _ _ (by rw [take_len]; exact Nat.le_refl _), take_len, Nat.sub_self]
    congr 1
    unfold blockF
    rw [(relF_op p j i).1, rel7_op, if_pos h8, if_pos h8]
    have e3 : relF p j i = { i with n := ((otherF p j : Nat) : Int) } := by unfold relF; rw [if_neg (by omega), if_pos h8]
    rw [e3]
    rfl
  unfold stateF
  rw [e1, e2, List.set_append_left _ _ (by omega), List.append_assoc]
theorem state_skip {p : LProg} {j : Nat} (h : isIf p j = false) : stateF p (j + 1) = stateF p j := by
  by_cases hj : j < p.code.length
  · have hi := List.getElem?_eq_getElem hj
    have h8 : p.code[j].op ≠ 8 := by
      unfold isIf at h
      simpa [hj] using h
    have e1 : (p.code.take (j + 1)).flatMap (trampF p) = (p.code.take j).flatMap (trampF p) := by
      rw [List.take_succ_eq_append_getElem hj, List.flatMap_append]
      simp [trampF, h8]
    unfold stateF
    rw [e1, part_split hi (j + 1) (.inr rfl), part_split hi j (.inl rfl), if_pos (by omega), if_neg (by omega), relF_not h8]
  · have e1 : (p.code.take (j + 1)).flatMap (trampF p) = (p.code.take j).flatMap (trampF p) := by
      rw [List.take_of_length_le (by omega), List.take_of_length_le (by omega)]
    have e2 : partF p (j + 1) = partF p j := by
      unfold partF
      have : ∀ l : List (LIns × Nat), (∀ x ∈ l, x.2 < j) → l.flatMap (fun x => blockF (if x.2 < j + 1 then relF p x.2 x.1 else rel7 p x.1)) = l.flatMap fun x => blockF (if x.2 < j then relF p x.2 x.1 else rel7 p x.1) := by
        intro l hl
        induction l with
        | nil => rfl
        | cons x l ih =>
          have hx := hl x (by simp)
          rw [List.flatMap_cons, List.flatMap_cons, ih (fun y hy => hl y (by simp [hy])), if_pos (by omega), if_pos hx]
      refine this _ (fun x hx => ?_)
      obtain ⟨k, hk, rfl⟩ := List.getElem_of_mem hx
      simp only [List.length_zipIdx] at hk
      simp
      omega
    unfold stateF
    rw [e1, e2]
theorem state_same {p : LProg} : ∀ (d j : Nat), (∀ k, j ≤ k → k < j + d → isIf p k = false) → stateF p (j + d) = stateF p j
  | 0, j, _ => rfl
  | d + 1, j, h => by
    rw [← Nat.add_assoc, state_skip (h (j + d) (by omega) (by omega)), state_same d j fun k h1 h2 => h k h1 (by omega)]
/-- the code ahead of the t-th IIf's turn -/
def turnF (p : LProg) (t : Nat) : List LIns := if t < (ifsF p p.code.length).length then stateF p ((ifsF p p.code.length).getD t 0) else stateF p p.code.length
theorem ifs_mono (p : LProg) {a b : Nat} (h : a ≤ b) : (ifsF p a).length ≤ (ifsF p b).length := by
  obtain ⟨d, rfl⟩ : ∃ d, b = a + d := ⟨b - a, by omega⟩
  induction d with
  | zero => exact Nat.le_refl _
  | succ d ih =>
    rw [← Nat.add_assoc, ifs_succ, List.length_append]
    have := ih (by omega)
    omega
theorem ifs_none {p : LProg} {a b : Nat} (h : (ifsF p a).length = (ifsF p b).length) {k : Nat} (h1 : a ≤ k) (h2 : k < b) : isIf p k = false := by
  cases hi : isIf p k
  · rfl
  · exfalso
    have m1 := ifs_mono p h1
    have m2 := ifs_mono p (show k + 1 ≤ b by omega)
    rw [ifs_succ, hi] at m2
    simp only [if_true, List.length_append, List.length_cons, List.length_nil] at m2
    omega
theorem turn_at {p : LProg} {t : Nat} (h : t < (ifsF p p.code.length).length) : ∃ j i, p.code[j]? = some i ∧ i.op = 8 ∧ (ifsF p p.code.length).getD t 0 = j ∧ turnF p t = stateF p j ∧ turnF p (t + 1) = stateF p (j + 1) := by
  obtain ⟨j, h1, h2, h3, h4⟩ := ifs_at p _ t h
  refine ⟨j, p.code[j], List.getElem?_eq_getElem h1, ?_, h3, ?_, ?_⟩
  · unfold isIf at h2
    simpa [h1] using h2
  · unfold turnF
    rw [if_pos h, h3]
  · have hl : (ifsF p (j + 1)).length = t + 1 := by
      rw [ifs_succ, h2, ← h4]
      simp
      omega
    unfold turnF
    by_cases ht : t + 1 < (ifsF p p.code.length).length
    · obtain ⟨j', g1, g2, g3, g4⟩ := ifs_at p _ (t + 1) ht
      rw [if_pos ht, g3]
      have hl' : (ifsF p j').length = t + 1 := by rw [← g4]; simp; omega
      have hle : j + 1 ≤ j' := by
        rcases Nat.lt_or_ge j j' with hlt | hge
        · exact hlt
        · have := ifs_mono p hge
          have h5 : (ifsF p j).length = t := by rw [← h4]; simp; omega
          omega
      obtain ⟨d, rfl⟩ : ∃ d, j' = j + 1 + d := ⟨j' - (j + 1), by omega⟩
      exact state_same d (j + 1) fun k k1 k2 => ifs_none (by omega) k1 k2
    · rw [if_neg ht]
      obtain ⟨d, hd⟩ : ∃ d, p.code.length = j + 1 + d := ⟨p.code.length - (j + 1), by omega⟩
      rw [hd]
      exact state_same d (j + 1) fun k k1 k2 => ifs_none (by rw [← hd]; omega) k1 k2
theorem turn_zero (p : LProg) : turnF p 0 = (p.code.flatMap blockF).map (rel7 p) := by
  have h0 : stateF p 0 = (p.code.flatMap blockF).map (rel7 p) := by
    unfold stateF
    rw [part_zero]
    simp
  unfold turnF
  split
  · rename_i h
    obtain ⟨j, h1, h2, h3, h4⟩ := ifs_at p _ 0 h
    rw [h3, ← h0]
    have hl : (ifsF p j).length = 0 := by rw [← h4]; simp
    have := state_same j 0 (p := p) fun k k1 k2 => ifs_none (p := p) (a := 0) (b := j) (by rw [hl]; rfl) k1 (by omega)
    simpa using this
  · rename_i h
    rw [← h0]
    have := state_same p.code.length 0 (p := p) fun k k1 k2 => ifs_none (p := p) (a := 0) (b := p.code.length) (by
      have : (ifsF p 0).length = 0 := rfl
      omega) k1 (by omega)
    simpa using this
theorem turn_all (p : LProg) : turnF p (ifsF p p.code.length).length = (fenceP p).code := by
  unfold turnF
  rw [if_neg (by omega)]
  unfold stateF fenceP mainF partF
  rw [List.take_length]
  congr 1
  have key : ∀ l : List (LIns × Nat), (∀ x ∈ l, x.2 < p.code.length) → l.flatMap (fun x => blockF (if x.2 < p.code.length then relF p x.2 x.1 else rel7 p x.1)) = l.flatMap fun x => blockF (relF p x.2 x.1) := by
    intro l hl
    induction l with
    | nil => rfl
    | cons x l ih => rw [List.flatMap_cons, List.flatMap_cons, ih (fun y hy => hl y (by simp [hy])), if_pos (hl x (by simp))]
  refine key _ (fun x hx => ?_)
  obtain ⟨k, hk, rfl⟩ := List.getElem_of_mem hx
  simp only [List.length_zipIdx] at hk
  simpa using hk
end Go.Proofs.Ytccgnegdinakeaa
/- The reference's rounds over all instructions (chapter 6), plainly: what is known in every round; the table is the least at the end. No program in sight. -/
namespace Go.Proofs.Ytccgnegdinakeaa
open Go
set_option linter.unusedVariables false
set_option linter.unusedSimpArgs false

/-- where an instruction leads, as the reference lists it -/
def leads6 (p : LProg) (at_ : Nat) (s : KSt) (i : LIns) : List (Nat × KSt) :=
  if i.op = 7 then [(i.n.toNat, s)]
  else if i.op = 9 then []
  else if i.op = 8 then [(i.n.toNat, branchK s i true), (at_ + 1, branchK s i false)]
  else [(at_ + 1, oneK p s i)]
theorem leads6_mem (p : LProg) (at_ : Nat) (s : KSt) (i : LIns) (x : Nat × KSt) : x ∈ leads6 p at_ s i ↔ x ∈ leadsK p at_ s i := by
  unfold leads6 leadsK
  repeat' split
  all_goals simp
  exact Or.comm
theorem leads6_len (p : LProg) (at_ : Nat) (s : KSt) (i : LIns) : (leads6 p at_ s i).length ≤ 2 := by
  unfold leads6
  repeat' split
  all_goals simp
theorem joinT_phi {p : LProg} {T : Tab} (h : Tok p T) {x : Nat × KSt} (hs : Sok x.2) (hx : x.1 < p.code.length) : phi (joinT T x) ≤ phi T ∧ (joinT T x ≠ T → phi (joinT T x) < phi T) := by
  have hxT : x.1 < T.length := by rw [h.len]; exact hx
  unfold joinT
  cases ht : tg T x.1 with
  | none =>
    have := phi_set T x.1 (some x.2) hxT
    rw [ht] at this
    simp only [ph] at this
    simp only
    exact ⟨by omega, fun _ => by omega⟩
  | some t =>
    have hk := h.ok _ _ ht
    have hj := sjoin_ok x.2 t
    have := phi_set T x.1 (some (sjoin x.2 t)) hxT
    rw [ht] at this
    simp only [ph] at this
    have r1 := rank_mono t (sjoin x.2 t) (by rw [hk.len, hj.len]) hk.ok hj.ok (sjoin_le2 hk)
    have r2 := rank_144 hk
    have r3 := rank_144 hj
    simp only
    refine ⟨by omega, fun hne => ?_⟩
    by_cases e : rank t = rank (sjoin x.2 t)
    · exfalso
      apply hne
      rw [← r1.2 e]
      exact tg_same ht hxT
    · omega

/-- what is known in a round, at an instruction -/
structure A6 (p : LProg) (T0 T : Tab) (again : Bool) (at_ : Nat) : Prop where
  tok : Tok p T
  under : Under p T
  first : ∃ s, tg T 0 = some s ∧ Sle kstart s
  less : phi T ≤ phi T0
  still : again = false → T = T0 ∧ ∀ j, j < at_ → ∀ s, tg T j = some s → ∀ x ∈ leadsK p j s (insAt p j), Led p T x
  some_ : again = true → phi T < phi T0
structure K6 (p : LProg) (T0 T : Tab) (again : Bool) (at_ : Nat) (s : KSt) (k : Nat) : Prop where
  a6 : A6 p T0 T again at_
  here : ∃ s', tg T at_ = some s' ∧ Sle s s'
  same : again = false → tg T at_ = some s
  led : again = false → ∀ j, j < k → Led p T ((leads6 p at_ s (insAt p at_)).getD j default)
theorem A6.begin {p : LProg} {T : Tab} (h1 : Tok p T) (h2 : Under p T) (h3 : ∃ s, tg T 0 = some s ∧ Sle kstart s) : A6 p T T false 0 :=
  ⟨h1, h2, h3, Nat.le_refl _, fun _ => ⟨rfl, fun j hj => by omega⟩, fun h => by cases h⟩
theorem A6.skip {p : LProg} {T0 T : Tab} {again : Bool} {at_ : Nat} (h : A6 p T0 T again at_) (hn : tg T at_ = none) : A6 p T0 T again (at_ + 1) :=
  ⟨h.tok, h.under, h.first, h.less, fun e => ⟨(h.still e).1, fun j hj s hs => by
    by_cases hja : j = at_
    · subst hja; rw [hn] at hs; cases hs
    · exact (h.still e).2 j (by omega) s hs⟩, h.some_⟩
theorem K6.begin {p : LProg} {T0 T : Tab} {again : Bool} {at_ : Nat} {s : KSt} (h : A6 p T0 T again at_) (hs : tg T at_ = some s) : K6 p T0 T again at_ s 0 :=
  ⟨h, ⟨s, hs, Sle.refl s⟩, fun _ => hs, fun _ j hj => by omega⟩
theorem K6.beyond {p : LProg} {T0 T : Tab} {again : Bool} {at_ : Nat} {s : KSt} {k : Nat} (h : K6 p T0 T again at_ s k) (hx : p.code.length ≤ ((leads6 p at_ s (insAt p at_)).getD k default).1) : K6 p T0 T again at_ s (k + 1) :=
  ⟨h.a6, h.here, h.same, fun e j hj => by
    by_cases hjk : j = k
    · subst hjk; intro hl; omega
    · exact h.led e j (by omega)⟩
theorem K6.join {p : LProg} {T0 T : Tab} {again : Bool} {at_ : Nat} {s : KSt} {k : Nat} (h : K6 p T0 T again at_ s k) (hs : Sok s) (hk : k < (leads6 p at_ s (insAt p at_)).length) {x : Nat × KSt} (hxe : (leads6 p at_ s (insAt p at_)).getD k default = x) (hx : x.1 < p.code.length) :
    K6 p T0 (joinT T x) (again || decide (joinT T x ≠ T)) at_ s (k + 1) := by
  have hm : x ∈ leadsK p at_ s (insAt p at_) := by
    rw [← leads6_mem, ← hxe]
    simp [hk]
  have hsx := leadsK_ok p at_ hs (insAt p at_) x hm
  have hT := h.a6.tok
  have hup := joinT_above hT hsx hx
  have hph := joinT_phi hT hsx hx
  have hled := joinT_led hT hsx (x := x)
  have hTu := joinT_under hT h.a6.under h.here hs hm hx
  refine ⟨⟨joinT_tok hT hsx hx, hTu, ?_, ?_, fun e => ?_, fun e => ?_⟩, ?_, fun e => ?_, fun e j hj => ?_⟩
  · obtain ⟨t, h1, h2⟩ := h.a6.first
    obtain ⟨u, h3, h4⟩ := hup 0 t h1
    exact ⟨u, h3, h2.trans h4⟩
  · have := h.a6.less
    omega
  · simp only [Bool.or_eq_false_iff, decide_eq_false_iff_not, Decidable.not_not] at e
    rw [e.2]
    exact h.a6.still e.1
  · simp only [Bool.or_eq_true, decide_eq_true_eq] at e
    rcases e with e | e
    · have := h.a6.some_ e
      omega
    · have := h.a6.less
      have := hph.2 e
      omega
  · obtain ⟨t, h1, h2⟩ := h.here
    obtain ⟨u, h3, h4⟩ := hup at_ t h1
    exact ⟨u, h3, h2.trans h4⟩
  · simp only [Bool.or_eq_false_iff, decide_eq_false_iff_not, Decidable.not_not] at e
    rw [e.2]
    exact h.same e.1
  · simp only [Bool.or_eq_false_iff, decide_eq_false_iff_not, Decidable.not_not] at e
    by_cases hjk : j = k
    · subst hjk
      rw [hxe]
      exact hled
    · rw [e.2]
      exact h.led e.1 j (by omega)
theorem K6.end_ {p : LProg} {T0 T : Tab} {again : Bool} {at_ : Nat} {s : KSt} {k : Nat} (h : K6 p T0 T again at_ s k) (hk : (leads6 p at_ s (insAt p at_)).length ≤ k) : A6 p T0 T again (at_ + 1) :=
  ⟨h.a6.tok, h.a6.under, h.a6.first, h.a6.less, fun e => ⟨(h.a6.still e).1, fun j hj t ht x hx => by
    by_cases hja : j = at_
    · subst hja
      rw [h.same e] at ht
      obtain rfl := Option.some.inj ht
      rw [← leads6_mem] at hx
      obtain ⟨n, hn, rfl⟩ := List.getElem_of_mem hx
      have := h.led e n (by omega)
      simpa [hn] using this
    · exact (h.a6.still e).2 j (by omega) t ht x hx⟩, h.a6.some_⟩
/-- a round that turns nothing: the table is the least -/
theorem A6.least {p : LProg} {T0 T : Tab} {at_ : Nat} (h : A6 p T0 T false at_) (hat : p.code.length ≤ at_) : Least p T :=
  ⟨⟨h.tok, h.first, fun j s hs => (h.still rfl).2 j (by
    have := h.tok.len
    rcases Nat.lt_or_ge j at_ with h1 | h1
    · exact h1
    · exfalso
      unfold tg at hs
      rw [List.getD_eq_getElem?_getD, List.getElem?_eq_none (by omega)] at hs
      cases hs) s hs⟩, h.under⟩
end Go.Proofs.Ytccgnegdinakeaa
/- The words of all public regions: region by region, and in one row. No memory, no program in sight. -/
namespace Go.Proofs.Ytccgnegdinakeaa
open Go.RowKit
set_option linter.unusedSimpArgs false
set_option linter.unusedVariables false

end Go.Proofs.Ytccgnegdinakeaa
