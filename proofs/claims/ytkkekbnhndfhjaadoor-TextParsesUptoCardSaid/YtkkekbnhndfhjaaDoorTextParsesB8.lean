/- Laid together from: TxN. -/
import Derived.Test.YtkkekbnhndfhjaaDoorTextParsesB1
import Derived.Lib.ItoaNum
import Derived.Lib.ParseIntB
import Derived.Lib.ParseIntBTie
import Derived.Lib.Strings

namespace Go.Proofs.YtkkekbnhndfhjaaDoor
set_option linter.unusedVariables false
set_option linter.unusedSimpArgs false
def isD (c : UInt8) : Bool := decide (48 ≤ c.toNat) && decide (c.toNat ≤ 57)
def valA (a : Nat) (l : List UInt8) : Nat := l.foldl (fun a c => 10 * a + (c.toNat - 48)) a
theorem valA_nil (a : Nat) : valA a [] = a := rfl
theorem valA_cons (a : Nat) (c : UInt8) (l : List UInt8) : valA a (c :: l) = valA (10 * a + (c.toNat - 48)) l := by
  unfold valA
  rw [List.foldl_cons]
theorem valA_app (a : Nat) (l r : List UInt8) : valA a (l ++ r) = valA (valA a l) r := List.foldl_append
theorem valA_le (l : List UInt8) : ∀ a : Nat, a ≤ valA a l := by
  induction l with
  | nil => exact fun a => Nat.le_refl _
  | cons c l ih =>
    intro a
    rw [valA_cons]
    have := ih (10 * a + (c.toNat - 48))
    generalize c.toNat - 48 = d at *
    omega
theorem head_app {l r : List UInt8} (h : l ≠ []) : (l ++ r).head? = l.head? := by
  cases l with
  | nil => exact absurd rfl h
  | cons _ _ => rfl
theorem isD_of {c : UInt8} (h : isD c = true) : 48 ≤ c.toNat ∧ c.toNat ≤ 57 := by simpa [isD] using h
theorem toNat_dig (d : Nat) (h : d < 10) : (UInt8.ofNat (48 + d)).toNat = 48 + d := by
  rw [UInt8.toNat_ofNat']
  exact Nat.mod_eq_of_lt (by omega)
theorem isD_dig (d : Nat) (h : d < 10) : isD (UInt8.ofNat (48 + d)) = true := by
  unfold isD
  rw [toNat_dig d h]
  simp; omega
theorem dec_facts : ∀ (n u : Nat), u ≤ n → (Lib.decDigits u).all isD = true ∧ valA 0 (Lib.decDigits u) = u ∧ Lib.decDigits u ≠ [] ∧ ((Lib.decDigits u).head? = some 48 → u = 0)
  | n, u, hn => by
    by_cases h : u < 10
    · rw [Lib.decDigits, dif_pos h]
      refine ⟨by simp only [List.all_cons, List.all_nil, Bool.and_true, isD_dig u h], by simp only [valA_cons, valA_nil, toNat_dig u h]; omega, by simp, fun e => ?_⟩
      simp only [List.head?_cons, Option.some.injEq] at e
      have := congrArg UInt8.toNat e
      rw [toNat_dig u h] at this
      simpa using this
    · obtain ⟨m, rfl⟩ : ∃ m, n = m + 1 := ⟨n - 1, by omega⟩
      obtain ⟨h1, h2, h3, h4⟩ := dec_facts m (u / 10) (by omega)
      rw [Lib.decDigits, dif_neg h]
      have hm : u % 10 < 10 := Nat.mod_lt _ (by omega)
      refine ⟨by simp only [List.all_append, List.all_cons, List.all_nil, Bool.and_true, isD_dig _ hm, h1], by rw [valA_app, h2, valA_cons, valA_nil, toNat_dig _ hm]; omega, by simp, fun e => ?_⟩
      rw [head_app h3] at e
      have := h4 e
      omega
theorem dec_val : ∀ (n : Nat) (l : List UInt8), l.length ≤ n → l ≠ [] → l.all isD = true → (l.length = 1 ∨ l.head? ≠ some 48) → Lib.decDigits (valA 0 l) = l
  | 0, l, hn, h0, _, _ => absurd (List.length_eq_zero_iff.1 (by omega)) h0
  | n + 1, l, hn, h0, ha, hh => by
    obtain ⟨r, d, rfl⟩ : ∃ r d, l = r ++ [d] := ⟨l.dropLast, l.getLast h0, (List.dropLast_concat_getLast h0).symm⟩
    have hd : isD d = true := by simp at ha; exact ha.2
    obtain ⟨d1, d2⟩ := isD_of hd
    have hdd : UInt8.ofNat (48 + (d.toNat - 48)) = d := by
      rw [show 48 + (d.toNat - 48) = d.toNat by omega]
      exact UInt8.ofNat_toNat
    by_cases hr : r = []
    · subst hr
      simp only [List.nil_append, valA_cons, valA_nil]
      rw [Lib.decDigits, dif_pos (by omega)]
      simp only [Nat.mul_zero, Nat.zero_add, hdd]
    · have hra : r.all isD = true := by rw [List.all_append, Bool.and_eq_true] at ha; exact ha.1
      have hhd : r.head? ≠ some 48 := by
        rcases hh with hh | hh
        · simp only [List.length_append, List.length_cons, List.length_nil] at hh
          exact absurd (List.length_eq_zero_iff.1 (by omega)) hr
        · rwa [head_app hr] at hh
      have ih := dec_val n r (by simp at hn; omega) hr hra (.inr hhd)
      have hpos : 1 ≤ valA 0 r := by
        cases r with
        | nil => exact absurd rfl hr
        | cons c r' =>
          rw [valA_cons]
          have := valA_le r' (10 * 0 + (c.toNat - 48))
          have hc : isD c = true := by simp at hra; exact hra.1
          obtain ⟨c1, c2⟩ := isD_of hc
          have hne : c.toNat ≠ 48 := fun e => hhd (by rw [List.head?_cons, show c = 48 from UInt8.toNat_inj.1 e])
          omega
      rw [valA_app, valA_cons, valA_nil, Lib.decDigits, dif_neg (by omega), show (10 * valA 0 r + (d.toNat - 48)) / 10 = valA 0 r by omega, show (10 * valA 0 r + (d.toNat - 48)) % 10 = d.toNat - 48 by omega, ih, hdd]
theorem parse_ok (M : Nat) (hM : M ≤ 18446744073709551615) : ∀ (l : List UInt8) (a : Nat), l.all isD = true → valA a l ≤ M → Lib.parseUintM M a l = .ok (valA a l)
  | [], a, _, _ => rfl
  | c :: l, a, ha, hv => by
    simp only [List.all_cons, Bool.and_eq_true] at ha
    obtain ⟨c1, c2⟩ := isD_of ha.1
    rw [valA_cons] at hv ⊢
    have := valA_le l (10 * a + (c.toNat - 48))
    unfold Lib.parseUintM
    rw [if_pos ⟨c1, c2⟩, if_neg (by omega), if_neg (by omega), Nat.mul_comm]
    exact parse_ok M hM l _ ha.2 hv
theorem parse_dec {v : Int} (h : R64 v) : Lib.parseIntB 64 (Lib.itoa v) = .ok v := by
  obtain ⟨h0, h1⟩ := h
  unfold Lib.itoa
  by_cases hn : v < 0
  · rw [if_pos hn]
    obtain ⟨k1, k2, k3, -⟩ := dec_facts _ v.natAbs (Nat.le_refl _)
    have hp : Lib.parseUintB 64 (Lib.decDigits v.natAbs) = .ok v.natAbs := by
      unfold Lib.parseUintB
      rw [if_neg k3, parse_ok _ (by decide) _ 0 k1 (by rw [k2]; omega), k2]
    unfold Lib.parseIntB
    simp only [show (45 : UInt8).toNat = 45 from rfl, or_true, if_true, hp, not_true_eq_false, false_and, if_false, true_and]
    rw [if_neg (by omega)]
    congr 1
    omega
  · rw [if_neg hn]
    obtain ⟨k1, k2, k3, -⟩ := dec_facts _ v.toNat (Nat.le_refl _)
    have hp : Lib.parseUintB 64 (Lib.decDigits v.toNat) = .ok v.toNat := by
      unfold Lib.parseUintB
      rw [if_neg k3, parse_ok _ (by decide) _ 0 k1 (by rw [k2]; omega), k2]
    generalize Lib.decDigits v.toNat = l at *
    cases l with
    | nil => exact absurd rfl k3
    | cons c r =>
      simp only [List.all_cons, Bool.and_eq_true] at k1
      obtain ⟨c1, c2⟩ := isD_of k1.1
      unfold Lib.parseIntB
      simp only
      rw [if_neg (show ¬ (c.toNat = 43 ∨ c.toNat = 45) by omega), hp]
      simp only
      rw [if_neg (by omega), if_neg (by omega), if_neg (by omega)]
      congr 1
      omega
def numT (s : List UInt8) (most : Nat) : Option Int :=
  match Lib.parseIntB 64 s with
  | .ok v => if Lib.itoa v = s ∧ (Lib.trimPrefix s [45]).length ≤ most then some v else none
  | _ => none
theorem num_some {s : List UInt8} {most : Nat} {v : Int} : numT s most = some v ↔ R64 v ∧ Lib.itoa v = s ∧ (Lib.trimPrefix s [45]).length ≤ most := by
  constructor
  · intro h
    unfold numT at h
    split at h
    · rename_i u hu
      split at h
      · rename_i hc
        obtain rfl := Option.some.inj h
        have := Lib.parseIntB_bounds hu
        exact ⟨⟨by simpa using this.1, by have := this.2; simp at this; omega⟩, hc⟩
      · cases h
    · cases h
  · rintro ⟨hr, rfl, hl⟩
    unfold numT
    rw [parse_dec hr]
    exact if_pos ⟨rfl, hl⟩
def refLoop (below : Bool) : Int → List UInt8 → Option Int
  | n, [] => some n
  | n, c :: r =>
    if isD c = false then none
    else if n < Int.tdiv (-9223372036854775807 + (c.toNat - 48 : Nat)) 10 ∧ (below = false ∨ n ≠ -922337203685477580 ∨ c.toNat - 48 ≠ 8) then none
    else refLoop below (10 * n - (c.toNat - 48 : Nat)) r
def bnd (below : Bool) : Nat := if below then 9223372036854775808 else 9223372036854775807
theorem tdiv10 (d : Nat) (h : d ≤ 9) : Int.tdiv (-9223372036854775807 + (d : Int)) 10 = if d ≤ 7 then -922337203685477580 else -922337203685477579 := by
  have : d = 0 ∨ d = 1 ∨ d = 2 ∨ d = 3 ∨ d = 4 ∨ d = 5 ∨ d = 6 ∨ d = 7 ∨ d = 8 ∨ d = 9 := by omega
  rcases this with rfl | rfl | rfl | rfl | rfl | rfl | rfl | rfl | rfl | rfl <;> rfl
theorem over10 (below : Bool) (a d : Nat) (h : d ≤ 9) (ha : a ≤ bnd below) : (-(a : Int) < Int.tdiv (-9223372036854775807 + (d : Int)) 10 ∧ (below = false ∨ -(a : Int) ≠ -922337203685477580 ∨ d ≠ 8)) ↔ bnd below < 10 * a + d := by
  rw [tdiv10 d h]
  cases below
  · simp only [bnd, Bool.false_eq_true, if_false, true_or, and_true]
    split <;> omega
  · simp only [bnd, if_true, Bool.true_eq_false, false_or]
    split <;> omega
theorem refLoop_eq (below : Bool) : ∀ (l : List UInt8) (a : Nat), a ≤ bnd below → refLoop below (-(a : Int)) l = if l.all isD = true ∧ valA a l ≤ bnd below then some (-(valA a l : Int)) else none
  | [], a, ha => by simp [refLoop, valA_nil, ha]
  | c :: l, a, ha => by
    unfold refLoop
    by_cases hc : isD c = true
    · obtain ⟨c1, c2⟩ := isD_of hc
      rw [if_neg (by simp [hc])]
      by_cases ho : bnd below < 10 * a + (c.toNat - 48)
      · rw [if_pos ((over10 below a _ (by omega) ha).2 ho), if_neg]
        rintro ⟨-, h⟩
        rw [valA_cons] at h
        have := valA_le l (10 * a + (c.toNat - 48))
        omega
      · rw [if_neg (fun h => ho ((over10 below a _ (by omega) ha).1 h)), show 10 * -(a : Int) - ((c.toNat - 48 : Nat) : Int) = -((10 * a + (c.toNat - 48) : Nat) : Int) by omega, refLoop_eq below l _ (by omega)]
        simp [hc, valA_cons]
    · rw [if_pos (by simpa using hc), if_neg (by simp [hc])]
def refN (s : List UInt8) (most : Nat) : Option Int :=
  let below := decide (s.head? = some 45)
  let t := if s.head? = some 45 then s.drop 1 else s
  if t.length < 1 ∨ most < t.length ∨ (t.head? = some 48 ∧ (1 < t.length ∨ below = true)) then none
  else match refLoop below 0 t with
  | none => none
  | some n => some (if below then n else 0 - n)
theorem trim_minus (s : List UInt8) : Lib.trimPrefix s [45] = if s.head? = some 45 then s.drop 1 else s := by
  unfold Lib.trimPrefix Lib.hasPrefix
  cases s with
  | nil => rfl
  | cons c r =>
    by_cases h : c = 45
    · subst h; rfl
    · have : ¬ (45 : UInt8) = c := fun e => h e.symm
      simp [List.isPrefixOf, h, this]
theorem refN_eq (s : List UInt8) (most : Nat) : refN s most = numT s most := by
  apply Option.ext
  intro v
  rw [num_some, trim_minus]
  unfold refN
  by_cases hb : s.head? = some 45
  · cases s with
    | nil => cases hb
    | cons c r =>
      obtain rfl : c = 45 := by simpa using hb
      simp only [List.head?_cons, decide_true, if_true, List.drop_succ_cons, List.drop_zero, or_true, and_true]
      rw [show (0 : Int) = -((0 : Nat) : Int) from rfl, refLoop_eq true r 0 (by simp [bnd])]
      constructor
      · intro h
        split at h
        · cases h
        · rename_i hn
          rw [not_or, not_or] at hn
          split at h
          · cases h
          · rename_i n hl
            split at hl
            · rename_i hd
              obtain rfl := Option.some.inj hl
              obtain rfl := Option.some.inj h
              simp only [bnd, if_true] at hd
              have hr0 : r ≠ [] := fun e => hn.1 (by rw [e]; simp)
              have hdv := dec_val _ r (Nat.le_refl _) hr0 hd.1 (.inr hn.2.2)
              have hpos : 1 ≤ valA 0 r := by
                rcases Nat.eq_zero_or_pos (valA 0 r) with h0 | h0
                · rw [h0, Lib.decDigits, dif_pos (by omega)] at hdv
                  exact absurd (by rw [← hdv]; rfl) hn.2.2
                · exact h0
              refine ⟨⟨by omega, by omega⟩, ?_, by omega⟩
              unfold Lib.itoa
              rw [if_pos (by omega), show (-(valA 0 r : Int)).natAbs = valA 0 r by omega, hdv]
            · cases hl
      · rintro ⟨⟨r0, r1⟩, he, hl⟩
        unfold Lib.itoa at he
        split at he
        · rename_i hneg
          obtain rfl := (List.cons.inj he).2
          obtain ⟨k1, k2, k3, k4⟩ := dec_facts _ v.natAbs (Nat.le_refl _)
          have hlen : 1 ≤ (Lib.decDigits v.natAbs).length := by
            rcases Nat.eq_zero_or_pos (Lib.decDigits v.natAbs).length with h0 | h0
            · exact absurd (List.length_eq_zero_iff.1 h0) k3
            · exact h0
          rw [if_neg (by rintro (h | h | h); · omega
                         · omega
                         · have := k4 h; omega), k2, if_pos ⟨k1, by simp [bnd]; omega⟩]
          simp only [Option.some.injEq]
          omega
        · rename_i hneg
          obtain ⟨k1, k2, k3, k4⟩ := dec_facts _ v.toNat (Nat.le_refl _)
          rw [he] at k1
          simp [isD] at k1
  · simp only [hb, decide_false, if_false, Bool.false_eq_true, or_false]
    rw [show (0 : Int) = -((0 : Nat) : Int) from rfl, refLoop_eq false s 0 (by simp [bnd])]
    constructor
    · intro h
      split at h
      · cases h
      · rename_i hn
        rw [not_or, not_or] at hn
        split at h
        · cases h
        · rename_i n hl
          split at hl
          · rename_i hd
            obtain rfl := Option.some.inj hl
            obtain rfl := Option.some.inj h
            simp only [bnd, Bool.false_eq_true, if_false] at hd
            have hs0 : s ≠ [] := fun e => hn.1 (by rw [e]; simp)
            have hh : s.length = 1 ∨ s.head? ≠ some 48 := by
              by_cases e : s.head? = some 48
              · left
                have : ¬ 1 < s.length := fun e1 => hn.2.2 ⟨e, e1⟩
                omega
              · exact .inr e
            have hdv := dec_val _ s (Nat.le_refl _) hs0 hd.1 hh
            refine ⟨⟨by omega, by omega⟩, ?_, by omega⟩
            unfold Lib.itoa
            rw [if_neg (by omega), show (-((0 : Nat) : Int) - -(valA 0 s : Int)).toNat = valA 0 s by omega, hdv]
          · cases hl
    · rintro ⟨⟨r0, r1⟩, he, hl⟩
      unfold Lib.itoa at he
      split at he
      · subst he
        simp at hb
      · rename_i hneg
        subst he
        obtain ⟨k1, k2, k3, k4⟩ := dec_facts _ v.toNat (Nat.le_refl _)
        have hlen : 1 ≤ (Lib.decDigits v.toNat).length := by
          rcases Nat.eq_zero_or_pos (Lib.decDigits v.toNat).length with h0 | h0
          · exact absurd (List.length_eq_zero_iff.1 h0) k3
          · exact h0
        rw [if_neg (by
          rintro (h | h | ⟨h, h'⟩)
          · omega
          · omega
          · have := k4 h
            rw [this] at h'
            rw [Lib.decDigits, dif_pos (by omega)] at h'
            simp at h'), k2, if_pos ⟨k1, by simp [bnd]; omega⟩]
        simp only [Option.some.injEq]
        omega
end Go.Proofs.YtkkekbnhndfhjaaDoor
