/- Laid together from: TxN. -/
import Derived.Test.YtkkekbnhndfhjaaDoorTextAgainB1
import Derived.Lib.ItoaNum
import Derived.Lib.ParseIntB
import Derived.Lib.ParseIntBTie
import Derived.Lib.Strings

namespace Go.Proofs.YtkkekbnhndfhjaaDoor
set_option linter.unusedVariables false
set_option linter.unusedSimpArgs false
def isD (c : UInt8) : Bool := decide (48 ≤ c.toNat) && decide (c.toNat ≤ 57)
def valA (a : Nat) (l : List UInt8) : Nat := l.foldl (fun a c => 10 * a + (c.toNat - 48)) a
theorem valA_nil (a : Nat) : valA a [] = a := rfl
theorem valA_cons (a : Nat) (c : UInt8) (l : List UInt8) : valA a (c :: l) = valA (10 * a + (c.toNat - 48)) l := by
  unfold valA
  rw [List.foldl_cons]
theorem valA_app (a : Nat) (l r : List UInt8) : valA a (l ++ r) = valA (valA a l) r := List.foldl_append
theorem valA_le (l : List UInt8) : ∀ a : Nat, a ≤ valA a l := by
  induction l with
  | nil => exact fun a => Nat.le_refl _
  | cons c l ih =>
    intro a
    rw [valA_cons]
    have := ih (10 * a + (c.toNat - 48))
    generalize c.toNat - 48 = d at *
    omega
theorem head_app {l r : List UInt8} (h : l ≠ []) : (l ++ r).head? = l.head? := by
  cases l with
  | nil => exact absurd rfl h
  | cons _ _ => rfl
theorem isD_of {c : UInt8} (h : isD c = true) : 48 ≤ c.toNat ∧ c.toNat ≤ 57 := by simpa [isD] using h
theorem toNat_dig (d : Nat) (h : d < 10) : (UInt8.ofNat (48 + d)).toNat = 48 + d := by
  rw [UInt8.toNat_ofNat']
  exact Nat.mod_eq_of_lt (by omega)
theorem isD_dig (d : Nat) (h : d < 10) : isD (UInt8.ofNat (48 + d)) = true := by
  unfold isD
  rw [toNat_dig d h]
  simp; omega
theorem dec_facts : ∀ (n u : Nat), u ≤ n → (Lib.decDigits u).all isD = true ∧ valA 0 (Lib.decDigits u) = u ∧ Lib.decDigits u ≠ [] ∧ ((Lib.decDigits u).head? = some 48 → u = 0)
  | n, u, hn => by
    by_cases h : u < 10
    · rw [Lib.decDigits, dif_pos h]
      refine ⟨by simp only [List.all_cons, List.all_nil, Bool.and_true, isD_dig u h], by simp only [valA_cons, valA_nil, toNat_dig u h]; omega, by simp, fun e => ?_⟩
      simp only [List.head?_cons, Option.some.injEq] at e
      have := congrArg UInt8.toNat e
      rw [toNat_dig u h] at this
      simpa using this
    · obtain ⟨m, rfl⟩ : ∃ m, n = m + 1 := ⟨n - 1, by omega⟩
      obtain ⟨h1, h2, h3, h4⟩ := dec_facts m (u / 10) (by omega)
      rw [Lib.decDigits, dif_neg h]
      have hm : u % 10 < 10 := Nat.mod_lt _ (by omega)
      refine ⟨by simp only [List.all_append, List.all_cons, List.all_nil, Bool.and_true, isD_dig _ hm, h1], by rw [valA_app, h2, valA_cons, valA_nil, toNat_dig _ hm]; omega, by simp, fun e => ?_⟩
      rw [head_app h3] at e
      have := h4 e
      omega
theorem parse_ok (M : Nat) (hM : M ≤ 18446744073709551615) : ∀ (l : List UInt8) (a : Nat), l.all isD = true → valA a l ≤ M → Lib.parseUintM M a l = .ok (valA a l)
  | [], a, _, _ => rfl
  | c :: l, a, ha, hv => by
    simp only [List.all_cons, Bool.and_eq_true] at ha
    obtain ⟨c1, c2⟩ := isD_of ha.1
    rw [valA_cons] at hv ⊢
    have := valA_le l (10 * a + (c.toNat - 48))
    unfold Lib.parseUintM
    rw [if_pos ⟨c1, c2⟩, if_neg (by omega), if_neg (by omega), Nat.mul_comm]
    exact parse_ok M hM l _ ha.2 hv
theorem parse_dec {v : Int} (h : R64 v) : Lib.parseIntB 64 (Lib.itoa v) = .ok v := by
  obtain ⟨h0, h1⟩ := h
  unfold Lib.itoa
  by_cases hn : v < 0
  · rw [if_pos hn]
    obtain ⟨k1, k2, k3, -⟩ := dec_facts _ v.natAbs (Nat.le_refl _)
    have hp : Lib.parseUintB 64 (Lib.decDigits v.natAbs) = .ok v.natAbs := by
      unfold Lib.parseUintB
      rw [if_neg k3, parse_ok _ (by decide) _ 0 k1 (by rw [k2]; omega), k2]
    unfold Lib.parseIntB
    simp only [show (45 : UInt8).toNat = 45 from rfl, or_true, if_true, hp, not_true_eq_false, false_and, if_false, true_and]
    rw [if_neg (by omega)]
    congr 1
    omega
  · rw [if_neg hn]
    obtain ⟨k1, k2, k3, -⟩ := dec_facts _ v.toNat (Nat.le_refl _)
    have hp : Lib.parseUintB 64 (Lib.decDigits v.toNat) = .ok v.toNat := by
      unfold Lib.parseUintB
      rw [if_neg k3, parse_ok _ (by decide) _ 0 k1 (by rw [k2]; omega), k2]
    generalize Lib.decDigits v.toNat = l at *
    cases l with
    | nil => exact absurd rfl k3
    | cons c r =>
      simp only [List.all_cons, Bool.and_eq_true] at k1
      obtain ⟨c1, c2⟩ := isD_of k1.1
      unfold Lib.parseIntB
      simp only
      rw [if_neg (show ¬ (c.toNat = 43 ∨ c.toNat = 45) by omega), hp]
      simp only
      rw [if_neg (by omega), if_neg (by omega), if_neg (by omega)]
      congr 1
      omega
def numT (s : List UInt8) (most : Nat) : Option Int :=
  match Lib.parseIntB 64 s with
  | .ok v => if Lib.itoa v = s ∧ (Lib.trimPrefix s [45]).length ≤ most then some v else none
  | _ => none
theorem num_some {s : List UInt8} {most : Nat} {v : Int} : numT s most = some v ↔ R64 v ∧ Lib.itoa v = s ∧ (Lib.trimPrefix s [45]).length ≤ most := by
  constructor
  · intro h
    unfold numT at h
    split at h
    · rename_i u hu
      split at h
      · rename_i hc
        obtain rfl := Option.some.inj h
        have := Lib.parseIntB_bounds hu
        exact ⟨⟨by simpa using this.1, by have := this.2; simp at this; omega⟩, hc⟩
      · cases h
    · cases h
  · rintro ⟨hr, rfl, hl⟩
    unfold numT
    rw [parse_dec hr]
    exact if_pos ⟨rfl, hl⟩
theorem trim_minus (s : List UInt8) : Lib.trimPrefix s [45] = if s.head? = some 45 then s.drop 1 else s := by
  unfold Lib.trimPrefix Lib.hasPrefix
  cases s with
  | nil => rfl
  | cons c r =>
    by_cases h : c = 45
    · subst h; rfl
    · have : ¬ (45 : UInt8) = c := fun e => h e.symm
      simp [List.isPrefixOf, h, this]
end Go.Proofs.YtkkekbnhndfhjaaDoor
