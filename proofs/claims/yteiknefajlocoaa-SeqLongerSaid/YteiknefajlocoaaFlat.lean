/- Words of all regions in one row, and region by region. No memory, no program in sight. -/
import Derived.Test.YteiknefajlocoaaSemL
namespace Go.Proofs.Yteiknefajlocoaa
open Go.RowKit
set_option linter.unusedSimpArgs false
set_option linter.unusedVariables false

/-- the words of each region, out of one row -/
def splitW (p : LProg) (ws : List Int) : List (List Int) := (List.range p.regs.length).map fun k => (ws.drop (baseOf p k)).take (wordsOf (p.regs.getD k default))
theorem split_len (p : LProg) (ws : List Int) : (splitW p ws).length = p.regs.length := by simp [splitW]
theorem split_get {p : LProg} (ws : List Int) {k : Nat} (hk : k < p.regs.length) : (splitW p ws).getD k default = (ws.drop (baseOf p k)).take (wordsOf (p.regs.getD k default)) := by
  simp [splitW, hk]
theorem base_zero (p : LProg) : baseOf p 0 = 0 := by simp [baseOf]
theorem base_succ (p : LProg) {k : Nat} (hk : k < p.regs.length) : baseOf p (k + 1) = baseOf p k + wordsOf (p.regs.getD k default) := by
  unfold baseOf
  rw [List.map_take, List.map_take, sum_take_succ _ k (by simpa using hk)]
  simp [hk]
theorem base_all (p : LProg) {k : Nat} (hk : p.regs.length ≤ k) : baseOf p k = total p := by
  unfold baseOf total
  rw [List.take_of_length_le hk]
theorem base_mono (p : LProg) {j k : Nat} (h : j ≤ k) : baseOf p j ≤ baseOf p k := by
  induction h with
  | refl => exact Nat.le_refl _
  | @step k hk ih =>
    by_cases hl : k < p.regs.length
    · rw [base_succ p hl]; omega
    · rw [base_all p (k := k + 1) (by omega), ← base_all p (k := k) (by omega)]; exact ih
theorem split_row {p : LProg} {ws : List Int} (hl : ws.length = total p) {k : Nat} (hk : k < p.regs.length) : ((splitW p ws).getD k default).length = wordsOf (p.regs.getD k default) := by
  rw [split_get ws hk, List.length_take, List.length_drop]
  have := base_end p k hk
  omega
theorem split_at {p : LProg} (ws : List Int) {c x : Nat} (hc : c < p.regs.length) (hx : x < wordsOf (p.regs.getD c default)) : ((splitW p ws).getD c default).getD x 0 = ws.getD (baseOf p c + x) 0 := by
  rw [split_get ws hc]
  generalize wordsOf (p.regs.getD c default) = W at *
  rw [List.getD_eq_getElem?_getD, List.getD_eq_getElem?_getD, List.getElem?_take, if_pos hx, List.getElem?_drop]
theorem split_set {p : LProg} (ws : List Int) {c x : Nat} (hc : c < p.regs.length) (hx : x < wordsOf (p.regs.getD c default)) (v : Int) :
    splitW p (ws.set (baseOf p c + x) v) = (splitW p ws).set c (((splitW p ws).getD c default).set x v) := by
  apply List.ext_getElem?
  intro k
  by_cases hk : k < p.regs.length
  · have e1 : ∀ us : List Int, (splitW p us)[k]? = some ((us.drop (baseOf p k)).take (wordsOf (p.regs.getD k default))) := by
      intro us
      simp [splitW, hk]
    rw [e1, List.getElem?_set]
    by_cases hck : c = k
    · subst hck
      rw [if_pos rfl, if_pos (by rw [split_len]; exact hc), split_get ws hc]
      congr 1
      apply List.ext_getElem?
      intro j
      rw [List.getElem?_take, List.getElem?_drop, List.getElem?_set, List.getElem?_set, List.getElem?_take, List.getElem?_drop, List.length_take, List.length_drop]
      by_cases hj : x = j
      · subst hj
        rw [if_pos hx, if_pos rfl, if_pos rfl]
        by_cases hl : baseOf p c + x < ws.length
        · rw [if_pos hl, if_pos (by rw [Nat.lt_min]; omega)]
        · rw [if_neg hl, if_neg (by rw [Nat.lt_min]; omega)]
      · rw [if_neg (show ¬ baseOf p c + x = baseOf p c + j by omega), if_neg hj]
    · rw [if_neg hck, e1]
      congr 1
      apply List.ext_getElem?
      intro j
      rw [List.getElem?_take, List.getElem?_take, List.getElem?_drop, List.getElem?_drop]
      by_cases hj : j < wordsOf (p.regs.getD k default)
      · rw [if_pos hj, if_pos hj, List.getElem?_set]
        have hne : ¬ baseOf p c + x = baseOf p k + j := by
          rcases Nat.lt_or_ge c k with h | h
          · have h1 := base_mono p (show c + 1 ≤ k by omega)
            rw [base_succ p hc] at h1
            omega
          · have h1 := base_mono p (show k + 1 ≤ c by omega)
            rw [base_succ p hk] at h1
            omega
        rw [if_neg hne]
      · rw [if_neg hj, if_neg hj]
  · rw [List.getElem?_eq_none (by rw [split_len]; omega), List.getElem?_eq_none (by rw [List.length_set, split_len]; omega)]
theorem fits_len {p : LProg} {m : List (List Int)} (h : fitsOk p m = true) : m.length = p.regs.length ∧ ∀ k, k < p.regs.length → (m.getD k default).length = wordsOf (p.regs.getD k default) := by
  simp only [fitsOk, Bool.and_eq_true, decide_eq_true_eq, List.all_eq_true, List.mem_range] at h
  exact ⟨h.1.2, h.2⟩
theorem flat_take {p : LProg} {m : List (List Int)} (h : fitsOk p m = true) : ∀ k, k ≤ p.regs.length → (m.take k).flatten.length = baseOf p k := by
  obtain ⟨h1, h2⟩ := fits_len h
  intro k
  induction k with
  | zero => intro _; simp [base_zero]
  | succ k ih =>
    intro hk
    rw [List.take_succ_eq_append_getElem (by omega), List.flatten_append, List.length_append, ih (by omega), base_succ p (by omega), ← h2 k (by omega)]
    simp [show k < m.length by omega]
theorem flat_total {p : LProg} {m : List (List Int)} (h : fitsOk p m = true) : m.flatten.length = total p := by
  have := flat_take h p.regs.length (Nat.le_refl _)
  rw [base_all p (Nat.le_refl _), List.take_of_length_le (by have := (fits_len h).1; omega)] at this
  exact this
theorem split_flat {p : LProg} {m : List (List Int)} (h : fitsOk p m = true) : splitW p m.flatten = m := by
  obtain ⟨h1, h2⟩ := fits_len h
  apply List.ext_getElem?
  intro k
  by_cases hk : k < p.regs.length
  · have hm : k < m.length := by omega
    have e : m = m.take k ++ m[k] :: m.drop (k + 1) := by simp
    have hb := flat_take h k (by omega)
    have hw := h2 k hk
    have eg : m.getD k default = m[k] := by simp [hm]
    rw [eg] at hw
    have e2 : (splitW p m.flatten)[k]? = some ((m.flatten.drop (baseOf p k)).take (wordsOf (p.regs.getD k default))) := by simp [splitW, hk]
    rw [e2, List.getElem?_eq_getElem hm]
    congr 1
    have e3 : m.flatten = (m.take k).flatten ++ (m[k] ++ (m.drop (k + 1)).flatten) := by
      conv => lhs; rw [e]
      rw [List.flatten_append, List.flatten_cons]
    rw [e3, ← hb, List.drop_left, ← hw, List.take_left]
  · rw [List.getElem?_eq_none (by rw [split_len]; omega), List.getElem?_eq_none (by omega)]
theorem words_all (p : LProg) (ws : List Int) (P : Int → Prop) (h : ∀ x ∈ ws, P x) : ∀ l ∈ splitW p ws, ∀ x ∈ l, P x := by
  intro l hl x hx
  simp only [splitW, List.mem_map, List.mem_range] at hl
  obtain ⟨k, _, rfl⟩ := hl
  exact h x (List.mem_of_mem_drop (List.mem_of_mem_take hx))
end Go.Proofs.Yteiknefajlocoaa
