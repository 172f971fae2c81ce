/- Laid together from: Ref1P. -/
import Derived.Test.YtalpnmjaafcpoaaFindTellsB4
import Derived.Test.YtalpnmjaafcpoaaFindTellsB6

namespace Go.Proofs.Ytalpnmjaafcpoaa
open Go.RowKit
def tb (n : Int) (i : Nat) : Bool := decide (n / 2 ^ i % 2 = 1)
def arr (f : Nat → Bool) : Array Value := ((List.range 64).map fun i => Value.bool (f i)).toArray
theorem Q22 (f : Nat → Bool) : (arr f).size = 64 := by simp [arr]
theorem Q35 (f : Nat → Bool) (i : Nat) (h : i < 64) : (arr f)[i]? = some (.bool (f i)) := by simp [arr, h]
theorem Qiv (f : Nat → Bool) (i : Nat) (h : i < (arr f).size) : (arr f)[i] = .bool (f i) := by simp [arr]
theorem Q8y (f : Nat → Bool) (i : Nat) (h : 64 ≤ i) : (arr f)[i]? = none := by simp [arr]; omega
theorem Q3z {f g : Nat → Bool} (h : ∀ i, i < 64 → f i = g i) : arr f = arr g := by
 apply Array.ext_getElem?
 intro i
 rcases Nat.lt_or_ge i 64 with hi | hi
 ·rw [Q35 f i hi, Q35 g i hi, h i hi]
 ·rw [Q8y f i hi, Q8y g i hi]
theorem Q8x (f : Nat → Bool) (k : Nat) (hk : k < 64) (b : Bool) : (arr f).setIfInBounds k (.bool b) = arr (fun i => if i = k then b else f i) := by
 apply Array.ext_getElem?
 intro i
 rcases Nat.lt_or_ge i 64 with hi | hi
 ·rw [Q35 _ i hi, Array.getElem?_setIfInBounds, Q22]
  by_cases h : k = i
  ·subst h; simp [hk]
  ·rw [if_neg h, Q35 f i hi, if_neg (fun e => h e.symm)]
 ·rw [Q8y _ i hi, Array.getElem?_eq_none (by simp [Q22]; omega)]
theorem Q5m (f : Nat → Bool) : (arr f).all (·.oneCell') = true := by
 apply Array.all_eq_true_iff_forall_mem.2
 intro v hv
 simp only [arr, List.mem_toArray, List.mem_map] at hv
 obtain ⟨i, _, rfl⟩ := hv
 rfl
theorem Q76 : arr (fun _ => false) = #[.bool false, .bool false, .bool false, .bool false, .bool false, .bool false, .bool false, .bool false, .bool false, .bool false, .bool false, .bool false, .bool false, .bool false, .bool false, .bool false, .bool false, .bool false, .bool false, .bool false, .bool false, .bool false, .bool false, .bool false, .bool false, .bool false, .bool false, .bool false, .bool false, .bool false, .bool false, .bool false, .bool false, .bool false, .bool false, .bool false, .bool false, .bool false, .bool false, .bool false, .bool false, .bool false, .bool false, .bool false, .bool false, .bool false, .bool false, .bool false, .bool false, .bool false, .bool false, .bool false, .bool false, .bool false, .bool false, .bool false, .bool false, .bool false, .bool false, .bool false, .bool false, .bool false, .bool false, .bool false] := by rfl
def Q2d (n : Int) (k : Nat) : Nat → Bool := fun i => decide (i < k) && tb n i
theorem Qil (n : Int) : arr (Q2d n 0) = arr (fun _ => false) := Q3z fun i _ => by simp [Q2d]
theorem Qin (n : Int) : arr (Q2d n 64) = arr (tb n) := Q3z fun i hi => by simp [Q2d, hi]
theorem Qim (n : Int) (k : Nat) (hk : k < 64) (b : Bool) (hb : b = tb n k) : (arr (Q2d n k)).setIfInBounds k (.bool b) = arr (Q2d n (k + 1)) := by
 rw [Q8x _ k hk]
 refine Q3z fun i _ => ?_
 unfold Q2d
 by_cases h : i = k
 ·subst h; simp [hb]
 ·rw [if_neg h]
  congr 1
  simp; omega
theorem half (n : Int) (k : Nat) : n / 2 ^ k / 2 = n / 2 ^ (k + 1) := by
 rw [Int.pow_succ, Int.ediv_ediv_of_nonneg (Int.le_of_lt (Int.pow_pos (by omega)))]
theorem Qhs (n : Int) (k : Nat) (h0 : -9223372036854775808 ≤ n) (h1 : n ≤ 9223372036854775807) : -9223372036854775808 ≤ n / 2 ^ k ∧ n / 2 ^ k ≤ 9223372036854775807 := by
 induction k with
 | zero => simpa using ⟨h0, h1⟩
 | succ k ih => rw [← half]; omega
theorem Qcf (m : Int) (h : m % 2 = 0) : m.tmod 2 = 0 := by
 rw [Int.tmod_eq_emod, if_pos (.inr (Int.dvd_of_emod_eq_zero h))]; omega
theorem Qcd (m : Int) (h : ¬ m % 2 = 0) (h0 : 0 ≤ m) : m.tmod 2 = 1 := by
 rw [Int.tmod_eq_emod, if_pos (.inl h0)]; omega
theorem Qce (m : Int) (h : ¬ m % 2 = 0) (h0 : ¬ 0 ≤ m) : m.tmod 2 = -1 := by
 rw [Int.tmod_eq_emod, if_neg (by rintro (h1 | h1); exact h0 h1; exact h (Int.emod_eq_zero_of_dvd h1))]; omega
theorem Q7f (m : Int) (h : m % 2 = 0) : m.tdiv 2 = m / 2 := by
 rw [Int.tdiv_eq_ediv, if_pos (.inr (Int.dvd_of_emod_eq_zero h))]; omega
def Q16 (f : Nat → Bool) : Nat → Int
 | 0 => 0
 | k + 1 => Q16 f k + if f k then 2 ^ k else 0
def ofB (f : Nat → Bool) : Int := wrap64 (Q16 f 64)
theorem Q96 (x y : Int) : wrap64 (wrap64 x + wrap64 y) = wrap64 (x + y) := by unfold wrap64; omega
theorem Qcl (f : Nat → Bool) (k : Nat) (h : f k = true) : wrap64 (wrap64 (Q16 f k) + wrap64 (2 ^ k)) = wrap64 (Q16 f (k + 1)) := by
 rw [Q96, Q16, h]; simp
theorem Qcm (f : Nat → Bool) (k : Nat) (h : f k = false) : wrap64 (Q16 f k) = wrap64 (Q16 f (k + 1)) := by
 rw [Q16, h]; simp
theorem Qan (k : Nat) : wrap64 (wrap64 (2 ^ k) + wrap64 (2 ^ k)) = wrap64 (2 ^ (k + 1)) := by
 rw [Q96, Int.pow_succ]; congr 1; omega
def bop (op : Int) (x y : Bool) : Bool := if op = 4 then x && y else if op = 5 then x || y else x != y
def mv (f : Nat → Bool) (s : Int) (i : Nat) : Bool := decide (0 ≤ (i : Int) - s) && decide ((i : Int) - s < 64) && f ((i : Int) - s).toNat
def Q1o (f : Nat → Bool) (k : Nat) : Nat → Bool := fun i => decide (i < k) && f i
theorem Qbh (f : Nat → Bool) : arr (Q1o f 0) = arr (fun _ => false) := Q3z fun i _ => by simp [Q1o]
theorem Qbi (f : Nat → Bool) (k : Nat) (hk : k < 64) (b : Bool) (hb : b = f k) : (arr (Q1o f k)).setIfInBounds k (.bool b) = arr (Q1o f (k + 1)) := by
 rw [Q8x _ k hk]
 refine Q3z fun i _ => ?_
 unfold Q1o
 by_cases h : i = k
 ·subst h; simp [hb]
 ·rw [if_neg h]
  congr 1
  simp; omega
theorem Q9k {f g : Nat → Bool} : ∀ k : Nat, (∀ i, i < k → f i = g i) → Q16 f k = Q16 g k
 | 0, _ => rfl
 | k + 1, h => by rw [Q16, Q16, Q9k k (fun i hi => h i (by omega)), h k (by omega)]
theorem Q4u {f g : Nat → Bool} (h : ∀ i, i < 64 → f i = g i) : ofB f = ofB g := by unfold ofB; rw [Q9k 64 h]
theorem Qb1 (f : Nat → Bool) : ofB (Q1o f 64) = ofB f := Q4u fun i hi => by simp [Q1o, hi]
theorem pow_pos' (k : Nat) : (0 : Int) < 2 ^ k := Int.pow_pos (by omega)
theorem Qi4 (n : Int) (k : Nat) : n % 2 ^ (k + 1) = n % 2 ^ k + 2 ^ k * (n / 2 ^ k % 2) := by
 have hp := pow_pos' k
 rw [Int.pow_succ]
 generalize (2 : Int) ^ k = p at *
 have hr0 := Int.emod_nonneg n (show p ≠ 0 by omega)
 have hr1 := Int.emod_lt_of_pos n hp
 have hd := Int.emod_add_mul_ediv n p
 have hq : n / p = n / p % 2 + 2 * (n / p / 2) := by omega
 have e : n = (n % p + p * (n / p % 2)) + p * 2 * (n / p / 2) := by
  conv => lhs; rw [← hd, hq, Int.mul_add, ← Int.add_assoc, ← Int.mul_assoc]
 conv => lhs; rw [e]
 rw [Int.add_mul_emod_self_left, Int.emod_eq_of_lt]
 ·rcases Int.emod_two_eq (n / p) with h | h <;> rw [h] <;> omega
 ·rcases Int.emod_two_eq (n / p) with h | h <;> rw [h] <;> omega
theorem Q5t (n : Int) : ∀ k : Nat, Q16 (tb n) k = n % 2 ^ k
 | 0 => by simp [Q16]
 | k + 1 => by
  rw [Q16, Q5t n k]
  have hp := pow_pos' k
  have h1 := Qi4 n k
  rw [h1]
  unfold tb
  rcases Int.emod_two_eq (n / 2 ^ k) with h | h <;> simp [h]
theorem Q5a (n : Int) : ofB (tb n) = wrap64 n := by
 unfold ofB
 rw [Q5t]
 unfold wrap64
 omega
theorem Q6e (a : Int) (i : Nat) (hi : i < 64) : tb (u64 a) i = tb a i := by
 unfold tb u64
 have h : (18446744073709551616 : Int) = 2 ^ i * 2 ^ (64 - i) := by rw [← Int.pow_add, show i + (64 - i) = 64 by omega]; rfl
 have h2 : (2 : Int) ^ (64 - i) = 2 * 2 ^ (63 - i) := by rw [show 64 - i = (63 - i) + 1 by omega, Int.pow_succ]; omega
 have hd : a = a % 18446744073709551616 + 18446744073709551616 * (a / 18446744073709551616) := by omega
 have e : a / 2 ^ i = a % 18446744073709551616 / 2 ^ i + 2 * (2 ^ (63 - i) * (a / 18446744073709551616)) := by
  conv => lhs; rw [hd, h, Int.mul_assoc, ← h]
  rw [Int.add_mul_ediv_left _ _ (by have := pow_pos' i; omega), h2, Int.mul_assoc]
 rw [e]
 congr 1
 simp
theorem Q52 (a : Int) (i : Nat) (hi : i < 64) : (BitVec.ofInt 64 a).getLsbD i = tb a i := by
 rw [← Q6e a i hi, BitVec.getLsbD, Nat.testBit_eq_decide_div_mod_eq, BitVec.toNat_ofInt]
 unfold tb u64
 rw [decide_eq_decide]
 have h : ((a % 18446744073709551616).toNat : Int) = a % 18446744073709551616 := by omega
 have e : (((a % 18446744073709551616).toNat / 2 ^ i % 2 : Nat) : Int) = a % 18446744073709551616 / 2 ^ i % 2 := by
  rw [Int.natCast_emod, Int.natCast_ediv, h, Int.natCast_pow]; rfl
 have hz : ((a % ((2 ^ 64 : Nat) : Int)).toNat) = (a % 18446744073709551616).toNat := by rfl
 rw [hz]
 omega
theorem Q7g (m : BitVec 64) (i : Nat) : tb (m.toNat : Int) i = m.getLsbD i := by
 rw [BitVec.getLsbD, Nat.testBit_eq_decide_div_mod_eq]
 unfold tb
 rw [decide_eq_decide]
 have e : ((m.toNat / 2 ^ i % 2 : Nat) : Int) = (m.toNat : Int) / 2 ^ i % 2 := by
  rw [Int.natCast_emod, Int.natCast_ediv, Int.natCast_pow]; rfl
 omega
theorem Qij (a b : Int) : (ofB fun i => bop 4 (tb a i) (tb b i)) = bits .and .i64 a b := by
 rw [Q4u (g := tb (((BitVec.ofInt 64 a &&& BitVec.ofInt 64 b).toNat : Nat) : Int)) (fun i hi => by rw [Q7g, BitVec.getLsbD_and, Q52 a i hi, Q52 b i hi]; rfl), Q5a, ← Q65]; rfl
theorem Qih (a b : Int) : (ofB fun i => bop 5 (tb a i) (tb b i)) = bits .or .i64 a b := by
 rw [Q4u (g := tb (((BitVec.ofInt 64 a ||| BitVec.ofInt 64 b).toNat : Nat) : Int)) (fun i hi => by rw [Q7g, BitVec.getLsbD_or, Q52 a i hi, Q52 b i hi]; rfl), Q5a, ← Q65]; rfl
theorem Qig (a b : Int) : (ofB fun i => bop 6 (tb a i) (tb b i)) = bits .xor .i64 a b := by
 rw [Q4u (g := tb (((BitVec.ofInt 64 a ^^^ BitVec.ofInt 64 b).toNat : Nat) : Int)) (fun i hi => by rw [Q7g, BitVec.getLsbD_xor, Q52 a i hi, Q52 b i hi]; rfl), Q5a, ← Q65]; rfl
theorem Qd2 (a : Int) (s : Nat) (hs : s < 64) : ofB (mv (tb a) s) = wrap64 (u64 a * 2 ^ s) := by
 rw [← Q5a]
 refine Q4u fun i hi => ?_
 unfold mv
 by_cases h : s ≤ i
 ·have e1 : ((i : Int) - s).toNat = i - s := by omega
  rw [decide_eq_true (by omega), decide_eq_true (by omega), e1, Bool.true_and, Bool.true_and, ← Q6e a _ (by omega)]
  unfold tb
  have e : (2 : Int) ^ i = 2 ^ (i - s) * 2 ^ s := by rw [← Int.pow_add, show i - s + s = i by omega]
  rw [e, Int.mul_ediv_mul_of_pos_left _ _ (pow_pos' s)]
 ·rw [decide_eq_false (by omega), Bool.false_and, Bool.false_and]
  unfold tb
  have e : (2 : Int) ^ s = 2 ^ i * (2 * 2 ^ (s - i - 1)) := by
   rw [show s = i + ((s - i - 1) + 1) by omega, Int.pow_add, Int.pow_succ, show i + (s - i - 1 + 1) - i - 1 = s - i - 1 by omega]; congr 1; omega
  have e2 : u64 a * 2 ^ s / 2 ^ i = 2 * (u64 a * 2 ^ (s - i - 1)) := by
   rw [e, show u64 a * (2 ^ i * (2 * 2 ^ (s - i - 1))) = 2 ^ i * (2 * (u64 a * 2 ^ (s - i - 1))) by
    rw [← Int.mul_assoc, Int.mul_comm (u64 a), Int.mul_assoc]; congr 1; rw [← Int.mul_assoc, Int.mul_comm (u64 a) 2, Int.mul_assoc], Int.mul_ediv_cancel_left _ (by have := pow_pos' i; omega)]
  rw [e2, eq_comm, decide_eq_false_iff_not]
  omega
theorem Qd0 (a : Int) (s : Nat) (hs : s < 64) : ofB (mv (tb a) (-(s : Int))) = wrap64 (u64 a / 2 ^ s) := by
 rw [← Q5a]
 refine Q4u fun i hi => ?_
 unfold mv
 have e1 : ((i : Int) - -(s : Int)).toNat = i + s := by omega
 rw [decide_eq_true (by omega : 0 ≤ (i : Int) - -(s : Int)), e1, Bool.true_and]
 have e : tb (u64 a / 2 ^ s) i = tb (u64 a) (i + s) := by
  unfold tb
  rw [Int.ediv_ediv_of_nonneg (Int.le_of_lt (pow_pos' s)), ← Int.pow_add, Nat.add_comm s i]
 rw [e]
 by_cases h : i + s < 64
 ·rw [decide_eq_true (by omega), Bool.true_and, Q6e a _ h]
 ·rw [decide_eq_false (by omega), Bool.false_and, eq_comm]
  unfold tb
  rw [decide_eq_false_iff_not]
  have hb : u64 a / 2 ^ (i + s) = 0 := by
   apply Int.ediv_eq_zero_of_lt (Q51 a)
   have h1 := Q7e a
   have h2 : (18446744073709551616 : Int) ≤ 2 ^ (i + s) := by
    rw [show i + s = 64 + (i + s - 64) by omega, Int.pow_add]
    have := pow_pos' (i + s - 64)
    have e64 : (2 : Int) ^ 64 = 18446744073709551616 := rfl
    rw [e64]; omega
   omega
  rw [hb]; omega
def rst (A B : Int) (k : Nat) : Int := A / 2 ^ k % B
theorem Qdw (A B : Int) (k : Nat) (h0 : 0 ≤ A) (hB : 0 < B) :
  (rst A B k = 2 * rst A B (k + 1) + (A / 2 ^ k % 2) - (if B ≤ 2 * rst A B (k + 1) + (A / 2 ^ k % 2) then B else 0)) ∧
  tb (A / B) k = decide (B ≤ 2 * rst A B (k + 1) + (A / 2 ^ k % 2)) := by
 unfold rst tb
 have hp := pow_pos' k
 rw [← half A k, Int.ediv_ediv_of_nonneg (Int.le_of_lt hB), Int.mul_comm B, ← Int.ediv_ediv_of_nonneg (Int.le_of_lt hp)]
 have hm : 0 ≤ A / 2 ^ k := Int.ediv_nonneg h0 (Int.le_of_lt hp)
 generalize A / 2 ^ k = m at *
 have r0 := Int.emod_nonneg (m / 2) (show B ≠ 0 by omega)
 have r1 := Int.emod_lt_of_pos (m / 2) hB
 have hd := Int.emod_add_mul_ediv (m / 2) B
 generalize m / 2 % B = r at *
 generalize m / 2 / B = q at *
 have hme : m = (2 * r + m % 2) + B * (2 * q) := by
  have : B * (2 * q) = 2 * (B * q) := by rw [← Int.mul_assoc, Int.mul_comm B 2, Int.mul_assoc]
  omega
 by_cases h : B ≤ 2 * r + m % 2
 ·have e1 : m % B = 2 * r + m % 2 - B := by
   conv => lhs; rw [hme]
   rw [Int.add_mul_emod_self_left, ← Int.sub_emod_right, Int.emod_eq_of_lt (by omega) (by omega)]
  have e2 : m / B = 2 * q + 1 := by
   have e3 := Int.emod_add_mul_ediv m B
   have : B * (m / B) = B * (2 * q + 1) := by rw [Int.mul_add]; omega
   exact Int.eq_of_mul_eq_mul_left (by omega) this
  rw [if_pos h, e1, e2, decide_eq_true h]
  exact ⟨by omega, by simp⟩
 ·have e1 : m % B = 2 * r + m % 2 := by
   conv => lhs; rw [hme]
   rw [Int.add_mul_emod_self_left, Int.emod_eq_of_lt (by omega) (by omega)]
  have e2 : m / B = 2 * q := by
   have e3 := Int.emod_add_mul_ediv m B
   have : B * (m / B) = B * (2 * q) := by omega
   exact Int.eq_of_mul_eq_mul_left (by omega) this
  rw [if_neg h, e1, e2, decide_eq_false h]
  exact ⟨by omega, by simp⟩
theorem Qdx (A B : Int) (k : Nat) (hB : 0 < B) : 0 ≤ rst A B k ∧ rst A B k < B := ⟨Int.emod_nonneg _ (by omega), Int.emod_lt_of_pos _ hB⟩
theorem Qdv (A B : Int) (h0 : 0 ≤ A) (h1 : A < 18446744073709551616) : rst A B 64 = 0 := by
 unfold rst
 have e : A / 2 ^ 64 = 0 := Int.ediv_eq_zero_of_lt h0 h1
 rw [e, Int.zero_emod]
def Q21 (f : Nat → Bool) (k : Nat) : Nat → Bool := fun i => decide (k ≤ i) && f i
theorem Qhl (f : Nat → Bool) : arr (Q21 f 64) = arr (fun _ => false) := Q3z fun i hi => by simp [Q21]; omega
theorem Qhk (f : Nat → Bool) (k : Nat) (hk : k < 64) (hb : f k = true) : (arr (Q21 f (k + 1))).setIfInBounds k (.bool true) = arr (Q21 f k) := by
 rw [Q8x _ k hk]
 refine Q3z fun i _ => ?_
 unfold Q21
 by_cases h : i = k
 ·subst h; simp [hb]
 ·rw [if_neg h]
  congr 1
  simp; omega
theorem Qhm (f : Nat → Bool) (k : Nat) (hb : f k = false) : arr (Q21 f (k + 1)) = arr (Q21 f k) := by
 refine Q3z fun i _ => ?_
 unfold Q21
 by_cases h : i = k
 ·subst h; simp [hb]
 ·congr 1; simp; omega
theorem Qc0 (r : Int) (h0 : 0 ≤ r) (h1 : r < 18446744073709551616) : (wrap64 r < 0) ↔ 9223372036854775808 ≤ r := by unfold wrap64; omega
theorem Qbx (r : Int) : wrap64 (wrap64 r + wrap64 r) = wrap64 (2 * r) := by unfold wrap64; omega
theorem Qbz (r : Int) : wrap64 (wrap64 r + 1) = wrap64 (r + 1) := by unfold wrap64; omega
theorem Qby (r b : Int) : wrap64 (wrap64 r - b) = wrap64 (r - u64 b) := by unfold wrap64 u64; omega
theorem Qc7 (r : Int) : u64 (wrap64 r) = r % 18446744073709551616 := by unfold wrap64 u64; omega
def Q3v (a b : Int) : Bool := decide (u64 a < u64 b)
theorem Qg2 {a b : Int} (a0 : -9223372036854775808 ≤ a) (a1 : a ≤ 9223372036854775807) (b0 : -9223372036854775808 ≤ b) (b1 : b ≤ 9223372036854775807) :
  Q3v a b = if decide (a < 0) != decide (b < 0) then decide (b < 0) else decide (a < b) := by
 unfold Q3v u64
 by_cases ha : a < 0 <;> by_cases hb : b < 0 <;> simp [ha, hb] <;> omega
end Go.Proofs.Ytalpnmjaafcpoaa
