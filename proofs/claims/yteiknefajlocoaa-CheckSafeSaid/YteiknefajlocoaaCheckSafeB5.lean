/- Laid together from: Ref1P, KnownL, SpecL, Quiet. -/
import Derived.Test.YteiknefajlocoaaCheckSafeB4
import Derived.Test.YteiknefajlocoaaCheckSafeB1

/- The reference's numbers, bit by bit, as plain functions. No program in sight. -/
namespace Go.Proofs.Yteiknefajlocoaa
open Go.RowKit

/-- bit i of a number -/
def tb (n : Int) (i : Nat) : Bool := decide (n / 2 ^ i % 2 = 1)
/-- an array of 64 bools, as the program holds it -/
def arr (f : Nat → Bool) : Array Value := ((List.range 64).map fun i => Value.bool (f i)).toArray
theorem arr_size (f : Nat → Bool) : (arr f).size = 64 := by simp [arr]
theorem arr_get (f : Nat → Bool) (i : Nat) (h : i < 64) : (arr f)[i]? = some (.bool (f i)) := by simp [arr, h]
theorem arr_at (f : Nat → Bool) (i : Nat) (h : i < (arr f).size) : (arr f)[i] = .bool (f i) := by simp [arr]
theorem arr_none (f : Nat → Bool) (i : Nat) (h : 64 ≤ i) : (arr f)[i]? = none := by simp [arr]; omega
theorem arr_congr {f g : Nat → Bool} (h : ∀ i, i < 64 → f i = g i) : arr f = arr g := by
  apply Array.ext_getElem?
  intro i
  rcases Nat.lt_or_ge i 64 with hi | hi
  · rw [arr_get f i hi, arr_get g i hi, h i hi]
  · rw [arr_none f i hi, arr_none g i hi]
theorem arr_set (f : Nat → Bool) (k : Nat) (hk : k < 64) (b : Bool) : (arr f).setIfInBounds k (.bool b) = arr (fun i => if i = k then b else f i) := by
  apply Array.ext_getElem?
  intro i
  rcases Nat.lt_or_ge i 64 with hi | hi
  · rw [arr_get _ i hi, Array.getElem?_setIfInBounds, arr_size]
    by_cases h : k = i
    · subst h; simp [hk]
    · rw [if_neg h, arr_get f i hi, if_neg (fun e => h e.symm)]
  · rw [arr_none _ i hi, Array.getElem?_eq_none (by simp [arr_size]; omega)]
theorem arr_one (f : Nat → Bool) : (arr f).all (·.oneCell') = true := by
  apply Array.all_eq_true_iff_forall_mem.2
  intro v hv
  simp only [arr, List.mem_toArray, List.mem_map] at hv
  obtain ⟨i, _, rfl⟩ := hv
  rfl
theorem arr_zero : arr (fun _ => false) = #[.bool false, .bool false, .bool false, .bool false, .bool false, .bool false, .bool false, .bool false, .bool false, .bool false, .bool false, .bool false, .bool false, .bool false, .bool false, .bool false, .bool false, .bool false, .bool false, .bool false, .bool false, .bool false, .bool false, .bool false, .bool false, .bool false, .bool false, .bool false, .bool false, .bool false, .bool false, .bool false, .bool false, .bool false, .bool false, .bool false, .bool false, .bool false, .bool false, .bool false, .bool false, .bool false, .bool false, .bool false, .bool false, .bool false, .bool false, .bool false, .bool false, .bool false, .bool false, .bool false, .bool false, .bool false, .bool false, .bool false, .bool false, .bool false, .bool false, .bool false, .bool false, .bool false, .bool false, .bool false] := by rfl

/-- the bits below k -/
def bitsTo (n : Int) (k : Nat) : Nat → Bool := fun i => decide (i < k) && tb n i
theorem bitsTo_zero (n : Int) : arr (bitsTo n 0) = arr (fun _ => false) := arr_congr fun i _ => by simp [bitsTo]
theorem bitsTo_all (n : Int) : arr (bitsTo n 64) = arr (tb n) := arr_congr fun i hi => by simp [bitsTo, hi]
theorem bitsTo_succ (n : Int) (k : Nat) (hk : k < 64) (b : Bool) (hb : b = tb n k) : (arr (bitsTo n k)).setIfInBounds k (.bool b) = arr (bitsTo n (k + 1)) := by
  rw [arr_set _ k hk]
  refine arr_congr fun i _ => ?_
  unfold bitsTo
  by_cases h : i = k
  · subst h; simp [hb]
  · rw [if_neg h]
    congr 1
    simp; omega
theorem half (n : Int) (k : Nat) : n / 2 ^ k / 2 = n / 2 ^ (k + 1) := by
  rw [Int.pow_succ, Int.ediv_ediv_of_nonneg (Int.le_of_lt (Int.pow_pos (by omega)))]
theorem half_bd (n : Int) (k : Nat) (h0 : -9223372036854775808 ≤ n) (h1 : n ≤ 9223372036854775807) : -9223372036854775808 ≤ n / 2 ^ k ∧ n / 2 ^ k ≤ 9223372036854775807 := by
  induction k with
  | zero => simpa using ⟨h0, h1⟩
  | succ k ih => rw [← half]; omega
theorem tmod2_even (m : Int) (h : m % 2 = 0) : m.tmod 2 = 0 := by
  rw [Int.tmod_eq_emod, if_pos (.inr (Int.dvd_of_emod_eq_zero h))]; omega
theorem tmod2_pos (m : Int) (h : ¬ m % 2 = 0) (h0 : 0 ≤ m) : m.tmod 2 = 1 := by
  rw [Int.tmod_eq_emod, if_pos (.inl h0)]; omega
theorem tmod2_neg (m : Int) (h : ¬ m % 2 = 0) (h0 : ¬ 0 ≤ m) : m.tmod 2 = -1 := by
  rw [Int.tmod_eq_emod, if_neg (by rintro (h1 | h1); exact h0 h1; exact h (Int.emod_eq_zero_of_dvd h1))]; omega
theorem tdiv2_even (m : Int) (h : m % 2 = 0) : m.tdiv 2 = m / 2 := by
  rw [Int.tdiv_eq_ediv, if_pos (.inr (Int.dvd_of_emod_eq_zero h))]; omega

/-- the number of bits, before it goes round -/
def sumTo (f : Nat → Bool) : Nat → Int
  | 0 => 0
  | k + 1 => sumTo f k + if f k then 2 ^ k else 0
def ofB (f : Nat → Bool) : Int := wrap64 (sumTo f 64)
theorem wrap64_add (x y : Int) : wrap64 (wrap64 x + wrap64 y) = wrap64 (x + y) := by unfold wrap64; omega
theorem sum_yes (f : Nat → Bool) (k : Nat) (h : f k = true) : wrap64 (wrap64 (sumTo f k) + wrap64 (2 ^ k)) = wrap64 (sumTo f (k + 1)) := by
  rw [wrap64_add, sumTo, h]; simp
theorem sum_no (f : Nat → Bool) (k : Nat) (h : f k = false) : wrap64 (sumTo f k) = wrap64 (sumTo f (k + 1)) := by
  rw [sumTo, h]; simp
theorem pow_yes (k : Nat) : wrap64 (wrap64 (2 ^ k) + wrap64 (2 ^ k)) = wrap64 (2 ^ (k + 1)) := by
  rw [wrap64_add, Int.pow_succ]; congr 1; omega
/-- bit by bit -/
def bop (op : Int) (x y : Bool) : Bool := if op = 4 then x && y else if op = 5 then x || y else x != y
/-- moved by -/
def mv (f : Nat → Bool) (s : Int) (i : Nat) : Bool := decide (0 ≤ (i : Int) - s) && decide ((i : Int) - s < 64) && f ((i : Int) - s).toNat
/-- what has been filled so far -/
def fillTo (f : Nat → Bool) (k : Nat) : Nat → Bool := fun i => decide (i < k) && f i
theorem fillTo_zero (f : Nat → Bool) : arr (fillTo f 0) = arr (fun _ => false) := arr_congr fun i _ => by simp [fillTo]
theorem fillTo_all (f : Nat → Bool) : arr (fillTo f 64) = arr f := arr_congr fun i hi => by simp [fillTo, hi]
theorem fillTo_succ (f : Nat → Bool) (k : Nat) (hk : k < 64) (b : Bool) (hb : b = f k) : (arr (fillTo f k)).setIfInBounds k (.bool b) = arr (fillTo f (k + 1)) := by
  rw [arr_set _ k hk]
  refine arr_congr fun i _ => ?_
  unfold fillTo
  by_cases h : i = k
  · subst h; simp [hb]
  · rw [if_neg h]
    congr 1
    simp; omega
theorem sumTo_congr {f g : Nat → Bool} : ∀ k : Nat, (∀ i, i < k → f i = g i) → sumTo f k = sumTo g k
  | 0, _ => rfl
  | k + 1, h => by rw [sumTo, sumTo, sumTo_congr k (fun i hi => h i (by omega)), h k (by omega)]
theorem ofB_congr {f g : Nat → Bool} (h : ∀ i, i < 64 → f i = g i) : ofB f = ofB g := by unfold ofB; rw [sumTo_congr 64 h]
theorem ofB_fill (f : Nat → Bool) : ofB (fillTo f 64) = ofB f := ofB_congr fun i hi => by simp [fillTo, hi]

/-! what the bits come to -/
theorem pow_pos' (k : Nat) : (0 : Int) < 2 ^ k := Int.pow_pos (by omega)
theorem emod_pow_succ (n : Int) (k : Nat) : n % 2 ^ (k + 1) = n % 2 ^ k + 2 ^ k * (n / 2 ^ k % 2) := by
  have hp := pow_pos' k
  rw [Int.pow_succ]
  generalize (2 : Int) ^ k = p at *
  have hr0 := Int.emod_nonneg n (show p ≠ 0 by omega)
  have hr1 := Int.emod_lt_of_pos n hp
  have hd := Int.emod_add_mul_ediv n p
  have hq : n / p = n / p % 2 + 2 * (n / p / 2) := by omega
  have e : n = (n % p + p * (n / p % 2)) + p * 2 * (n / p / 2) := by
    conv => lhs; rw [← hd, hq, Int.mul_add, ← Int.add_assoc, ← Int.mul_assoc]
  conv => lhs; rw [e]
  rw [Int.add_mul_emod_self_left, Int.emod_eq_of_lt]
  · rcases Int.emod_two_eq (n / p) with h | h <;> rw [h] <;> omega
  · rcases Int.emod_two_eq (n / p) with h | h <;> rw [h] <;> omega
theorem sumTo_tb (n : Int) : ∀ k : Nat, sumTo (tb n) k = n % 2 ^ k
  | 0 => by simp [sumTo]
  | k + 1 => by
    rw [sumTo, sumTo_tb n k]
    have hp := pow_pos' k
    have h1 := emod_pow_succ n k
    rw [h1]
    unfold tb
    rcases Int.emod_two_eq (n / 2 ^ k) with h | h <;> simp [h]
theorem ofB_tb (n : Int) : ofB (tb n) = wrap64 n := by
  unfold ofB
  rw [sumTo_tb]
  unfold wrap64
  omega
theorem tb_u64 (a : Int) (i : Nat) (hi : i < 64) : tb (u64 a) i = tb a i := by
  unfold tb u64
  have h : (18446744073709551616 : Int) = 2 ^ i * 2 ^ (64 - i) := by rw [← Int.pow_add, show i + (64 - i) = 64 by omega]; rfl
  have h2 : (2 : Int) ^ (64 - i) = 2 * 2 ^ (63 - i) := by rw [show 64 - i = (63 - i) + 1 by omega, Int.pow_succ]; omega
  have hd : a = a % 18446744073709551616 + 18446744073709551616 * (a / 18446744073709551616) := by omega
  have e : a / 2 ^ i = a % 18446744073709551616 / 2 ^ i + 2 * (2 ^ (63 - i) * (a / 18446744073709551616)) := by
    conv => lhs; rw [hd, h, Int.mul_assoc, ← h]
    rw [Int.add_mul_ediv_left _ _ (by have := pow_pos' i; omega), h2, Int.mul_assoc]
  rw [e]
  congr 1
  simp
theorem tb_bv (a : Int) (i : Nat) (hi : i < 64) : (BitVec.ofInt 64 a).getLsbD i = tb a i := by
  rw [← tb_u64 a i hi, BitVec.getLsbD, Nat.testBit_eq_decide_div_mod_eq, BitVec.toNat_ofInt]
  unfold tb u64
  rw [decide_eq_decide]
  have h : ((a % 18446744073709551616).toNat : Int) = a % 18446744073709551616 := by omega
  have e : (((a % 18446744073709551616).toNat / 2 ^ i % 2 : Nat) : Int) = a % 18446744073709551616 / 2 ^ i % 2 := by
    rw [Int.natCast_emod, Int.natCast_ediv, h, Int.natCast_pow]; rfl
  have hz : ((a % ((2 ^ 64 : Nat) : Int)).toNat) = (a % 18446744073709551616).toNat := by rfl
  rw [hz]
  omega
theorem tb_nat (m : BitVec 64) (i : Nat) : tb (m.toNat : Int) i = m.getLsbD i := by
  rw [BitVec.getLsbD, Nat.testBit_eq_decide_div_mod_eq]
  unfold tb
  rw [decide_eq_decide]
  have e : ((m.toNat / 2 ^ i % 2 : Nat) : Int) = (m.toNat : Int) / 2 ^ i % 2 := by
    rw [Int.natCast_emod, Int.natCast_ediv, Int.natCast_pow]; rfl
  omega
theorem bitwise_and (a b : Int) : (ofB fun i => bop 4 (tb a i) (tb b i)) = bits .and .i64 a b := by
  rw [ofB_congr (g := tb (((BitVec.ofInt 64 a &&& BitVec.ofInt 64 b).toNat : Nat) : Int)) (fun i hi => by rw [tb_nat, BitVec.getLsbD_and, tb_bv a i hi, tb_bv b i hi]; rfl), ofB_tb, ← i64_is]; rfl
theorem bitwise_or (a b : Int) : (ofB fun i => bop 5 (tb a i) (tb b i)) = bits .or .i64 a b := by
  rw [ofB_congr (g := tb (((BitVec.ofInt 64 a ||| BitVec.ofInt 64 b).toNat : Nat) : Int)) (fun i hi => by rw [tb_nat, BitVec.getLsbD_or, tb_bv a i hi, tb_bv b i hi]; rfl), ofB_tb, ← i64_is]; rfl
theorem bitwise_xor (a b : Int) : (ofB fun i => bop 6 (tb a i) (tb b i)) = bits .xor .i64 a b := by
  rw [ofB_congr (g := tb (((BitVec.ofInt 64 a ^^^ BitVec.ofInt 64 b).toNat : Nat) : Int)) (fun i hi => by rw [tb_nat, BitVec.getLsbD_xor, tb_bv a i hi, tb_bv b i hi]; rfl), ofB_tb, ← i64_is]; rfl
theorem shl_is (a : Int) (s : Nat) (hs : s < 64) : ofB (mv (tb a) s) = wrap64 (u64 a * 2 ^ s) := by
  rw [← ofB_tb]
  refine ofB_congr fun i hi => ?_
  unfold mv
  by_cases h : s ≤ i
  · have e1 : ((i : Int) - s).toNat = i - s := by omega
    rw [decide_eq_true (by omega), decide_eq_true (by omega), e1, Bool.true_and, Bool.true_and, ← tb_u64 a _ (by omega)]
    unfold tb
    have e : (2 : Int) ^ i = 2 ^ (i - s) * 2 ^ s := by rw [← Int.pow_add, show i - s + s = i by omega]
    rw [e, Int.mul_ediv_mul_of_pos_left _ _ (pow_pos' s)]
  · rw [decide_eq_false (by omega), Bool.false_and, Bool.false_and]
    unfold tb
    have e : (2 : Int) ^ s = 2 ^ i * (2 * 2 ^ (s - i - 1)) := by
      rw [show s = i + ((s - i - 1) + 1) by omega, Int.pow_add, Int.pow_succ, show i + (s - i - 1 + 1) - i - 1 = s - i - 1 by omega]; congr 1; omega
    have e2 : u64 a * 2 ^ s / 2 ^ i = 2 * (u64 a * 2 ^ (s - i - 1)) := by
      rw [e, show u64 a * (2 ^ i * (2 * 2 ^ (s - i - 1))) = 2 ^ i * (2 * (u64 a * 2 ^ (s - i - 1))) by
        rw [← Int.mul_assoc, Int.mul_comm (u64 a), Int.mul_assoc]; congr 1; rw [← Int.mul_assoc, Int.mul_comm (u64 a) 2, Int.mul_assoc], Int.mul_ediv_cancel_left _ (by have := pow_pos' i; omega)]
    rw [e2, eq_comm, decide_eq_false_iff_not]
    omega
theorem shr_is (a : Int) (s : Nat) (hs : s < 64) : ofB (mv (tb a) (-(s : Int))) = wrap64 (u64 a / 2 ^ s) := by
  rw [← ofB_tb]
  refine ofB_congr fun i hi => ?_
  unfold mv
  have e1 : ((i : Int) - -(s : Int)).toNat = i + s := by omega
  rw [decide_eq_true (by omega : 0 ≤ (i : Int) - -(s : Int)), e1, Bool.true_and]
  have e : tb (u64 a / 2 ^ s) i = tb (u64 a) (i + s) := by
    unfold tb
    rw [Int.ediv_ediv_of_nonneg (Int.le_of_lt (pow_pos' s)), ← Int.pow_add, Nat.add_comm s i]
  rw [e]
  by_cases h : i + s < 64
  · rw [decide_eq_true (by omega), Bool.true_and, tb_u64 a _ h]
  · rw [decide_eq_false (by omega), Bool.false_and, eq_comm]
    unfold tb
    rw [decide_eq_false_iff_not]
    have hb : u64 a / 2 ^ (i + s) = 0 := by
      apply Int.ediv_eq_zero_of_lt (u64_nonneg a)
      have h1 := u64_lt a
      have h2 : (18446744073709551616 : Int) ≤ 2 ^ (i + s) := by
        rw [show i + s = 64 + (i + s - 64) by omega, Int.pow_add]
        have := pow_pos' (i + s - 64)
        have e64 : (2 : Int) ^ 64 = 18446744073709551616 := rfl
        rw [e64]; omega
      omega
    rw [hb]; omega

/-! dividing bit by bit -/
/-- what is left over, ahead of bit k -/
def rst (A B : Int) (k : Nat) : Int := A / 2 ^ k % B
theorem rst_step (A B : Int) (k : Nat) (h0 : 0 ≤ A) (hB : 0 < B) :
    (rst A B k = 2 * rst A B (k + 1) + (A / 2 ^ k % 2) - (if B ≤ 2 * rst A B (k + 1) + (A / 2 ^ k % 2) then B else 0)) ∧
    tb (A / B) k = decide (B ≤ 2 * rst A B (k + 1) + (A / 2 ^ k % 2)) := by
  unfold rst tb
  have hp := pow_pos' k
  rw [← half A k, Int.ediv_ediv_of_nonneg (Int.le_of_lt hB), Int.mul_comm B, ← Int.ediv_ediv_of_nonneg (Int.le_of_lt hp)]
  have hm : 0 ≤ A / 2 ^ k := Int.ediv_nonneg h0 (Int.le_of_lt hp)
  generalize A / 2 ^ k = m at *
  have r0 := Int.emod_nonneg (m / 2) (show B ≠ 0 by omega)
  have r1 := Int.emod_lt_of_pos (m / 2) hB
  have hd := Int.emod_add_mul_ediv (m / 2) B
  generalize m / 2 % B = r at *
  generalize m / 2 / B = q at *
  have hme : m = (2 * r + m % 2) + B * (2 * q) := by
    have : B * (2 * q) = 2 * (B * q) := by rw [← Int.mul_assoc, Int.mul_comm B 2, Int.mul_assoc]
    omega
  by_cases h : B ≤ 2 * r + m % 2
  · have e1 : m % B = 2 * r + m % 2 - B := by
      conv => lhs; rw [hme]
      rw [Int.add_mul_emod_self_left, ← Int.sub_emod_right, Int.emod_eq_of_lt (by omega) (by omega)]
    have e2 : m / B = 2 * q + 1 := by
      have e3 := Int.emod_add_mul_ediv m B
      have : B * (m / B) = B * (2 * q + 1) := by rw [Int.mul_add]; omega
      exact Int.eq_of_mul_eq_mul_left (by omega) this
    rw [if_pos h, e1, e2, decide_eq_true h]
    exact ⟨by omega, by simp⟩
  · have e1 : m % B = 2 * r + m % 2 := by
      conv => lhs; rw [hme]
      rw [Int.add_mul_emod_self_left, Int.emod_eq_of_lt (by omega) (by omega)]
    have e2 : m / B = 2 * q := by
      have e3 := Int.emod_add_mul_ediv m B
      have : B * (m / B) = B * (2 * q) := by omega
      exact Int.eq_of_mul_eq_mul_left (by omega) this
    rw [if_neg h, e1, e2, decide_eq_false h]
    exact ⟨by omega, by simp⟩
theorem rst_bd (A B : Int) (k : Nat) (hB : 0 < B) : 0 ≤ rst A B k ∧ rst A B k < B := ⟨Int.emod_nonneg _ (by omega), Int.emod_lt_of_pos _ hB⟩
theorem rst_top (A B : Int) (h0 : 0 ≤ A) (h1 : A < 18446744073709551616) : rst A B 64 = 0 := by
  unfold rst
  have e : A / 2 ^ 64 = 0 := Int.ediv_eq_zero_of_lt h0 h1
  rw [e, Int.zero_emod]
/-- the bits from k on -/
def hiFrom (f : Nat → Bool) (k : Nat) : Nat → Bool := fun i => decide (k ≤ i) && f i
theorem hiFrom_top (f : Nat → Bool) : arr (hiFrom f 64) = arr (fun _ => false) := arr_congr fun i hi => by simp [hiFrom]; omega
theorem hiFrom_all (f : Nat → Bool) : arr (hiFrom f 0) = arr f := arr_congr fun i hi => by simp [hiFrom]
theorem hiFrom_yes (f : Nat → Bool) (k : Nat) (hk : k < 64) (hb : f k = true) : (arr (hiFrom f (k + 1))).setIfInBounds k (.bool true) = arr (hiFrom f k) := by
  rw [arr_set _ k hk]
  refine arr_congr fun i _ => ?_
  unfold hiFrom
  by_cases h : i = k
  · subst h; simp [hb]
  · rw [if_neg h]
    congr 1
    simp; omega
theorem hiFrom_no (f : Nat → Bool) (k : Nat) (hb : f k = false) : arr (hiFrom f (k + 1)) = arr (hiFrom f k) := by
  refine arr_congr fun i _ => ?_
  unfold hiFrom
  by_cases h : i = k
  · subst h; simp [hb]
  · congr 1; simp; omega
theorem wrap64_neg (r : Int) (h0 : 0 ≤ r) (h1 : r < 18446744073709551616) : (wrap64 r < 0) ↔ 9223372036854775808 ≤ r := by unfold wrap64; omega
theorem wrap64_two (r : Int) : wrap64 (wrap64 r + wrap64 r) = wrap64 (2 * r) := by unfold wrap64; omega
theorem wrap64_one (r : Int) : wrap64 (wrap64 r + 1) = wrap64 (r + 1) := by unfold wrap64; omega
theorem wrap64_sub (r b : Int) : wrap64 (wrap64 r - b) = wrap64 (r - u64 b) := by unfold wrap64 u64; omega
theorem u64_wrap64 (r : Int) : u64 (wrap64 r) = r % 18446744073709551616 := by unfold wrap64 u64; omega
/-- Below -/
def nbelow (a b : Int) : Bool := decide (u64 a < u64 b)
theorem nbelow_other {a b : Int} (a0 : -9223372036854775808 ≤ a) (a1 : a ≤ 9223372036854775807) (b0 : -9223372036854775808 ≤ b) (b1 : b ≤ 9223372036854775807) :
    nbelow a b = if decide (a < 0) != decide (b < 0) then decide (b < 0) else decide (a < b) := by
  unfold nbelow u64
  by_cases ha : a < 0 <;> by_cases hb : b < 0 <;> simp [ha, hb] <;> omega
end Go.Proofs.Yteiknefajlocoaa
/- WHAT IS KNOWN IS SO, in plain Lean: what comes of numbers that fit fits what is told of it. No program in sight. -/
namespace Go.Proofs.Yteiknefajlocoaa
open Go.RowKit

theorem nrm_nrm (b : Int) : nrm (nrm b) = nrm b := nrm_id (nrm_bd b).1 (nrm_bd b).2
theorem khas_17 {b n : Int} (h : nrm b = 17) : khas b n = true := by unfold khas kfit; rw [h]; rfl
theorem khas_iff {b : Int} {m : Nat} (h : nrm b = m) (hm : m ≤ 16) (n : Int) : khas b n = true ↔ 0 ≤ n ∧ n < 2 ^ m := by
  unfold khas kfit
  rw [h, Int.toNat_natCast]
  simp
  omega
theorem bits_of (b : Int) : nrm b = 17 ∨ ∃ m : Nat, nrm b = m ∧ m ≤ 16 := by
  obtain ⟨h0, h1⟩ := nrm_bd b
  by_cases h : nrm b = 17
  · exact .inl h
  · exact .inr ⟨(nrm b).toNat, by omega, by omega⟩
theorem pow_16 (m : Nat) (h : m ≤ 16) : (2 : Int) ^ m ≤ 65536 := pow_le m 16 h
theorem pow_one (m : Nat) : (1 : Int) ≤ 2 ^ m := by have : (0 : Int) < 2 ^ m := Int.pow_pos (by omega); omega
/-- fits fewer, fits more -/
theorem khas_mono {b c n : Int} (h : nrm b ≤ nrm c) (hb : khas b n = true) : khas c n = true := by
  rcases bits_of c with hc | ⟨k, hc, hk⟩
  · exact khas_17 hc
  · rcases bits_of b with hb' | ⟨m, hb', hm⟩
    · omega
    · rw [khas_iff hb' hm] at hb
      rw [khas_iff hc hk]
      have := pow_le m k (by omega)
      omega
theorem khas_join {b c n m : Int} (h : khas b n = true) (k : khas c m = true) : khas (max (nrm b) (nrm c)) n = true ∧ khas (max (nrm b) (nrm c)) m = true := by
  have e : nrm (max (nrm b) (nrm c)) = max (nrm b) (nrm c) := by
    obtain ⟨h0, h1⟩ := nrm_bd b
    obtain ⟨k0, k1⟩ := nrm_bd c
    exact nrm_id (by omega) (by omega)
  exact ⟨khas_mono (by rw [e]; omega) h, khas_mono (by rw [e]; omega) k⟩
theorem khas_of (n : Int) : khas (kof n) n = true := by
  obtain ⟨h0, h1⟩ := kof_bd n
  by_cases h : kof n ≤ 16
  · have := kof_fits n (kof n).toNat (by omega)
    rw [show (((kof n).toNat : Nat) : Int) = kof n by omega] at this
    rw [this]; simp
  · exact khas_17 (by rw [nrm_id h0 h1]; omega)
theorem u64_small {n : Int} (h0 : 0 ≤ n) (h1 : n < 18446744073709551616) : u64 n = n := by unfold u64; omega
theorem khas_less {b c n m : Int} (n0 : -9223372036854775808 ≤ n) (n1 : n ≤ 9223372036854775807) (hn : khas b n = true) (hm : khas c m = true) (h : nbelow m n = false) : khas (min (nrm b) (nrm c)) n = true := by
  obtain ⟨b0, b1⟩ := nrm_bd b
  obtain ⟨c0, c1⟩ := nrm_bd c
  have e : nrm (min (nrm b) (nrm c)) = min (nrm b) (nrm c) := nrm_id (by omega) (by omega)
  by_cases hbc : nrm b ≤ nrm c
  · exact khas_mono (by rw [e]; omega) hn
  · rcases bits_of c with hc | ⟨k, hc, hk⟩
    · omega
    · rw [khas_iff hc hk] at hm
      have hp := pow_16 k hk
      unfold nbelow at h
      rw [u64_small hm.1 (by omega)] at h
      simp at h
      -- n is at most m, from 0 on; n is a number of 64 bits
      rw [khas_iff (b := min (nrm b) (nrm c)) (m := k) (by rw [e]; omega) hk]
      rcases bits_of b with hb | ⟨j, hb, hj⟩
      · unfold u64 at h; omega
      · rw [khas_iff hb hj] at hn
        have hq := pow_16 j hj
        rw [u64_small hn.1 (by omega)] at h
        omega

theorem wrap64_small {n : Int} (h0 : 0 ≤ n) (h1 : n ≤ 9223372036854775807) : wrap64 n = n := by unfold wrap64; omega
/-- bits.and of a number and a small one -/
theorem and_small (n m : Int) (h0 : 0 ≤ m) (h1 : m < 65536) : 0 ≤ bits .and .i64 n m ∧ bits .and .i64 n m ≤ m := by
  have e : bits .and .i64 n m = IntKind.i64.wrap ((BitVec.ofInt 64 n &&& BitVec.ofInt 64 m).toNat : Int) := rfl
  have hm : (BitVec.ofInt 64 m).toNat = m.toNat := by rw [BitVec.toNat_ofInt]; omega
  have hl : (BitVec.ofInt 64 n &&& BitVec.ofInt 64 m).toNat ≤ m.toNat := by
    rw [BitVec.toNat_and, hm]; exact Nat.and_le_right
  rw [e, i64_is, wrap64_small (by omega) (by omega)]
  omega
theorem and_comm' (n m : Int) : bits .and .i64 n m = bits .and .i64 m n := by
  show IntKind.i64.wrap ((BitVec.ofInt 64 n &&& BitVec.ofInt 64 m).toNat : Int) = IntKind.i64.wrap ((BitVec.ofInt 64 m &&& BitVec.ofInt 64 n).toNat : Int)
  rw [BitVec.and_comm]
theorem nat_pow_cast (k : Nat) : ((2 ^ k : Nat) : Int) = (2 : Int) ^ k := by rw [Int.natCast_pow]; rfl
theorem or_small (n m : Int) (k : Nat) (hk : k ≤ 16) (n0 : 0 ≤ n) (n1 : n < 2 ^ k) (m0 : 0 ≤ m) (m1 : m < 2 ^ k) : 0 ≤ bits .or .i64 n m ∧ bits .or .i64 n m < 2 ^ k := by
  have e : bits .or .i64 n m = IntKind.i64.wrap ((BitVec.ofInt 64 n ||| BitVec.ofInt 64 m).toNat : Int) := rfl
  have hp := pow_16 k hk
  have hc := nat_pow_cast k
  have hn : (BitVec.ofInt 64 n).toNat = n.toNat := by rw [BitVec.toNat_ofInt]; omega
  have hm : (BitVec.ofInt 64 m).toNat = m.toNat := by rw [BitVec.toNat_ofInt]; omega
  have hl : (BitVec.ofInt 64 n ||| BitVec.ofInt 64 m).toNat < 2 ^ k := by
    rw [BitVec.toNat_or, hn, hm]; exact Nat.or_lt_two_pow (by omega) (by omega)
  rw [e, i64_is, wrap64_small (by omega) (by omega)]
  omega
theorem xor_small (n m : Int) (k : Nat) (hk : k ≤ 16) (n0 : 0 ≤ n) (n1 : n < 2 ^ k) (m0 : 0 ≤ m) (m1 : m < 2 ^ k) : 0 ≤ bits .xor .i64 n m ∧ bits .xor .i64 n m < 2 ^ k := by
  have e : bits .xor .i64 n m = IntKind.i64.wrap ((BitVec.ofInt 64 n ^^^ BitVec.ofInt 64 m).toNat : Int) := rfl
  have hp := pow_16 k hk
  have hc := nat_pow_cast k
  have hn : (BitVec.ofInt 64 n).toNat = n.toNat := by rw [BitVec.toNat_ofInt]; omega
  have hm : (BitVec.ofInt 64 m).toNat = m.toNat := by rw [BitVec.toNat_ofInt]; omega
  have hl : (BitVec.ofInt 64 n ^^^ BitVec.ofInt 64 m).toNat < 2 ^ k := by
    rw [BitVec.toNat_xor, hn, hm]; exact Nat.xor_lt_two_pow (by omega) (by omega)
  rw [e, i64_is, wrap64_small (by omega) (by omega)]
  omega

theorem kop_bd (op a b : Int) (a0 : 0 ≤ a) (a1 : a ≤ 17) (b0 : 0 ≤ b) (b1 : b ≤ 17) : 0 ≤ kop op a b ∧ kop op a b ≤ 17 := by
  unfold kop kopN
  split
  · split <;> omega
  repeat' (split <;> try omega)

/-- E4: what comes of two numbers is known as is told -/
theorem khas_op {op b c n m : Int} (hn : khas b n = true) (hm : khas c m = true) : khas (kop op (nrm b) (nrm c)) (nop op n m) = true := by
  obtain ⟨b0, b1⟩ := nrm_bd b
  obtain ⟨c0, c1⟩ := nrm_bd c
  obtain ⟨k0, k1⟩ := kop_bd op (nrm b) (nrm c) b0 b1 c0 c1
  have ek := nrm_id k0 k1
  by_cases h17 : kop op (nrm b) (nrm c) = 17
  · exact khas_17 (by rw [ek, h17])
  -- what is told is at most 16 bits
  obtain ⟨k, hk⟩ : ∃ k : Nat, kop op (nrm b) (nrm c) = k := ⟨(kop op (nrm b) (nrm c)).toNat, by omega⟩
  have hk16 : k ≤ 16 := by omega
  rw [khas_iff (by rw [ek, hk]) hk16]
  have hpk := pow_one k
  by_cases h1 : op = 1
  · subst h1
    rcases bits_of b with hb | ⟨i, hb, hi⟩
    · exfalso; apply h17; rw [hb]; simp [kop, kopN]; split <;> omega
    rcases bits_of c with hc | ⟨j, hc, hj⟩
    · exfalso; apply h17; rw [hc]; simp [kop, kopN]; split <;> omega
    rw [khas_iff hb hi] at hn
    rw [khas_iff hc hj] at hm
    have p1 := pow_16 i hi
    have p2 := pow_16 j hj
    have e : nop 1 n m = wrap64 (n + m) := rfl
    rw [e, wrap64_small (by omega) (by omega)]
    have hkop : kop 1 (nrm b) (nrm c) = min (max (nrm b) (nrm c) + (if 0 < min (nrm b) (nrm c) then 1 else 0)) 17 := rfl
    rw [hb, hc] at hkop hk
    by_cases hz : 0 < min (i : Int) (j : Int)
    · rw [if_pos hz] at hkop
      have q1 := pow_le i (max i j) (by omega)
      have q2 := pow_le j (max i j) (by omega)
      have q3 : (2 : Int) ^ k = 2 ^ (max i j) * 2 := by rw [← Int.pow_succ]; congr 1; omega
      omega
    · rw [if_neg hz] at hkop
      have q1 := pow_le i k (by omega)
      have q2 := pow_le j k (by omega)
      rcases (show i = 0 ∨ j = 0 by omega) with h | h
      · subst h; simp at hn; omega
      · subst h; simp at hm; omega
  by_cases h3 : op = 3
  · subst h3
    have hkop : kop 3 (nrm b) (nrm c) = min (if nrm b = 0 ∨ nrm c = 0 then 0 else nrm b + nrm c) 17 := rfl
    have e : nop 3 n m = wrap64 (n * m) := rfl
    rw [e]
    by_cases hz : nrm b = 0 ∨ nrm c = 0
    · rw [if_pos hz] at hkop
      have hnm : n * m = 0 := by
        rcases hz with h | h
        · rw [khas_iff (m := 0) h (by omega)] at hn; simp at hn
          obtain rfl : n = 0 := by omega
          simp
        · rw [khas_iff (m := 0) h (by omega)] at hm; simp at hm
          obtain rfl : m = 0 := by omega
          simp
      rw [hnm, wrap64_small (by omega) (by omega)]
      omega
    · rw [if_neg hz] at hkop
      rcases bits_of b with hb | ⟨i, hb, hi⟩
      · omega
      rcases bits_of c with hc | ⟨j, hc, hj⟩
      · omega
      rw [khas_iff hb hi] at hn
      rw [khas_iff hc hj] at hm
      have q3 : (2 : Int) ^ k = 2 ^ i * 2 ^ j := by rw [← Int.pow_add]; congr 1; omega
      have l1 : n * m < 2 ^ i * 2 ^ j := by
        have h1 : n * m ≤ n * 2 ^ j := Int.mul_le_mul_of_nonneg_left (by omega) hn.1
        have h2 : n * 2 ^ j < 2 ^ i * 2 ^ j := Int.mul_lt_mul_of_pos_right hn.2 (Int.pow_pos (by omega))
        omega
      have l0 : 0 ≤ n * m := Int.mul_nonneg hn.1 hm.1
      have p := pow_16 k hk16
      rw [wrap64_small l0 (by omega)]
      omega
  by_cases h4 : op = 4
  · subst h4
    have hkop : kop 4 (nrm b) (nrm c) = min (min (nrm b) (nrm c)) 17 := rfl
    have e : nop 4 n m = bits .and .i64 n m := rfl
    rw [e]
    by_cases hbc : nrm c ≤ nrm b
    · have hc : nrm c = k := by omega
      rw [khas_iff hc hk16] at hm
      have := and_small n m hm.1 (by have := pow_16 k hk16; omega)
      omega
    · have hb : nrm b = k := by omega
      rw [khas_iff hb hk16] at hn
      have := and_small m n hn.1 (by have := pow_16 k hk16; omega)
      rw [and_comm']
      omega
  by_cases h5 : op = 5 ∨ op = 6
  · have hkop : kop op (nrm b) (nrm c) = min (max (nrm b) (nrm c)) 17 := by rcases h5 with rfl | rfl <;> rfl
    rcases bits_of b with hb | ⟨i, hb, hi⟩
    · omega
    rcases bits_of c with hc | ⟨j, hc, hj⟩
    · omega
    rw [khas_iff hb hi] at hn
    rw [khas_iff hc hj] at hm
    have q1 := pow_le i k (by omega)
    have q2 := pow_le j k (by omega)
    rcases h5 with rfl | rfl
    · exact or_small n m k hk16 hn.1 (by omega) hm.1 (by omega)
    · exact xor_small n m k hk16 hn.1 (by omega) hm.1 (by omega)
  by_cases h8 : op = 8 ∨ op = 9 ∨ op = 10
  · have hkop : kop op (nrm b) (nrm c) = min (nrm b) 17 := by rcases h8 with rfl | rfl | rfl <;> rfl
    have hb : nrm b = k := by omega
    rw [khas_iff hb hk16] at hn
    have p := pow_16 k hk16
    have hu : u64 n = n := u64_small hn.1 (by omega)
    have hum := u64_nonneg m
    rcases h8 with rfl | rfl | rfl
    · have e : nop 8 n m = wrap64 (u64 n / 2 ^ sh m) := rfl
      rw [e, hu]
      have d0 : 0 ≤ n / 2 ^ sh m := Int.ediv_nonneg hn.1 (Int.le_of_lt (pow_pos' _))
      have d1 : n / 2 ^ sh m ≤ n := Int.ediv_le_self _ hn.1
      rw [wrap64_small d0 (by omega)]
      omega
    · have e : nop 9 n m = if u64 m = 0 then 0 else wrap64 (u64 n / u64 m) := rfl
      rw [e, hu]
      split
      · omega
      · have d0 : 0 ≤ n / u64 m := Int.ediv_nonneg hn.1 hum
        have d1 : n / u64 m ≤ n := Int.ediv_le_self _ hn.1
        rw [wrap64_small d0 (by omega)]
        omega
    · have e : nop 10 n m = if u64 m = 0 then n else wrap64 (u64 n % u64 m) := rfl
      rw [e, hu]
      split
      · omega
      · rename_i hz
        have d0 : 0 ≤ n % u64 m := Int.emod_nonneg _ hz
        have d1 : n % u64 m ≤ n := by
          have := Int.emod_add_mul_ediv n (u64 m)
          have h2 : 0 ≤ u64 m * (n / u64 m) := Int.mul_nonneg hum (Int.ediv_nonneg hn.1 hum)
          omega
        rw [wrap64_small d0 (by omega)]
        omega
  · exfalso
    apply h17
    unfold kop
    rw [kopN_other _ _ h1 h3 h4 (fun h => h5 (.inl h)) (fun h => h5 (.inr h)) (fun h => h8 (.inl h)) (fun h => h8 (.inr (.inl h))) (fun h => h8 (.inr (.inr h)))]
    rfl
end Go.Proofs.Yteiknefajlocoaa
/- Plain laws of runs with steps ahead of time: what is done ahead of time is taken back; without choices nothing is done ahead. No program in sight. -/
namespace Go.Proofs.Yteiknefajlocoaa
open Go.RowKit
set_option linter.unusedSimpArgs false
set_option linter.unusedVariables false

/-- ahead of time: the place to come back to, and how it ends, stay -/
structure Keeps (s s' : Spc) : Prop where
  ahead : s'.ahead = true
  back : s'.back = s.back
  fin : s'.fin = s.fin
  value : s'.value = s.value
theorem doS_ahead (p : LProg) (i : LIns) (s : Spc) (h : s.ahead = true) : Keeps s (doS p i s) := by
  have hb : Keeps s (branchS i s) := by
    simp only [branchS]
    split <;> constructor <;> simp [Spc.goTo, Spc.chosen, h]
  have ht : ∀ (n : Nat) (s : Spc), s.ahead = true → Keeps s (takeS i n s) := by
    intro n s h
    simp only [takeS]
    split <;> constructor <;> simp [Spc.goTo, Spc.chosen, Spc.put_, h]
  have hw : Keeps s (wordS p i s) := by
    simp only [wordS]
    rw [if_neg (by simp [h])]
    split
    · split
      · constructor <;> simp [h]
      · have := ht (wrap64 (baseOf p i.c.toNat + idxOf s.pl.regs i)).toNat { s with seen := s.seen ++ [⟨2, wrap64 (baseOf p i.c.toNat + idxOf s.pl.regs i), putN i⟩] } h
        exact ⟨this.1, this.2, this.3, this.4⟩
    · split <;> constructor <;> simp [Spc.goTo, Spc.put_, h]
  simp only [doS]
  split
  · constructor <;> simp [Spc.goTo, h]
  split
  · exact hb
  split
  · constructor <;> simp [Spc.goTo, h]
  split
  · constructor <;> simp [Spc.goTo, h]
  split
  · exact hw
  · constructor <;> simp [h]

/-- what a step that is not ahead of time does -/
structure Does (s : Spc) (m : Mach) : Prop where
  fin : s.fin = m.fin
  value : s.value = m.value
  seen : s.seen = m.seen
  on : s.ahead = false → s.fin = 0 → At s.pl m
  back : s.ahead = true → s.fin = 0 ∧ At s.back m
  words : s.fin ≠ 0 → s.pl.words = m.words
theorem takeS_plain (i : LIns) (s : Spc) (m : Mach) (n : Nat) (hA : s.ahead = false) (hf : s.fin = 0) (hAt : At s.pl m) (hm : m.fin = 0) (hv : s.value = m.value) (seen : List LSee) (k : Nat) (h : s.seen = seen) :
    Does (takeS i n s) { m with at_ := m.at_ + 1, steps := k, seen := seen, regs := rset m.regs i.a (m.words.getD n 0) } := by
  obtain ⟨h1, h2, h3⟩ := hAt
  simp only [takeS]
  split
  · constructor <;> simp [Spc.goTo, Spc.chosen, Spc.put_, hA, hf, hv, h, hm, At, h1, h2, h3]
  · constructor <;> simp [Spc.goTo, Spc.chosen, Spc.put_, hA, hf, hv, h, hm, At, h1, h2, h3]
theorem doS_plain (p : LProg) (i : LIns) (s : Spc) (m : Mach) (hp : hardOk p = true) (hi : i ∈ p.code) (hA : s.ahead = false) (hf : s.fin = 0) (hAt : At s.pl m) (hm : m.fin = 0) (hv : s.value = m.value)
    (hs : s.seen = m.seen ++ [⟨1, m.at_, 0⟩]) (hl : m.words.length = total p) : Does (doS p i s) (stepM p i m) := by
  obtain ⟨p1, p2, p3, p4⟩ := hard_parts hp
  have hAt' := hAt
  obtain ⟨h1, h2, h3⟩ := hAt'
  simp only [doS, stepM]
  split
  · constructor <;> simp [Spc.goTo, hA, hf, hv, hs, hm, At, h1, h2]
  split
  · simp only [branchS]
    split
    · constructor <;> simp [Spc.goTo, Spc.chosen, hA, hf, hv, hs, hm, At, h1, h2, h3]
    · constructor <;> simp [Spc.goTo, Spc.chosen, hA, hf, hv, hs, hm, At, h1, h2, h3]
  split
  · rw [if_neg (by simp [hA])]
    constructor <;> simp [hA, hs, h1, h2]
  split
  · rename_i h7 h8 h9 h12
    have hw : (isPut i || isTake i) = false := by simp [isPut, isTake, h12]
    rw [hw]
    constructor <;> simp [Spc.goTo, plainS, plainR, h12, hA, hf, hv, hs, hm, At, h1, h2, h3]
  split
  · rename_i hw
    obtain ⟨hc0, hc⟩ := region_there (p4 i hi) hw
    simp only [wordS, hA, Bool.not_false, Bool.and_true, Bool.not_eq_true']
    rw [h1]
    split
    · rename_i hin
      rw [if_neg (by simp [hin])]
      constructor <;> simp [hA, hv, hs, h2]
    · rename_i hin
      have hin' : insideB p i (idxOf m.regs i) = true := by simpa using hin
      obtain ⟨i1, i2, i3, i4⟩ := idx_small p1 hc hin'
      rw [if_pos hin', i4, if_pos (by rw [h2, hl]; omega)]
      simp only [Int.toNat_natCast]
      split
      · constructor <;> simp [hA, hf, hv, hs, hm, At, h1, h2, h3]
      · refine takeS_plain i { s with seen := _, ahead := false } m _ rfl hf ⟨h1, h2, h3⟩ hm hv _ _ ?_
        simp [hs]
  · constructor <;> simp [hA, hf, hv, hs, hm, At, h1, h2, h3]

/-- a run with steps ahead of time, and one without, where it would come back to -/
structure Mates (p : LProg) (s : Spc) (m : Mach) : Prop where
  fs : s.fin = 0
  fm : m.fin = 0
  value : s.value = m.value
  on : s.ahead = false → At s.pl m
  back : s.ahead = true → At s.back m
  len : m.words.length = total p
theorem stepM_len (p : LProg) (i : LIns) (m : Mach) : (stepM p i m).words.length = m.words.length := by
  simp only [stepM]
  repeat' split
  all_goals simp
theorem mates_up {p : LProg} {s : Spc} {m : Mach} (h : Mates p s m) : Mates p (upS p s) m := by
  unfold upS
  split
  · rename_i hu
    exact ⟨h.fs, h.fm, h.value, fun _ => h.back hu.1, fun e => by simp [Spc.returns] at e, h.len⟩
  · exact h
theorem shut_step {p : LProg} {s : Spc} {m : Mach} {o : Bool} (h : s.fin = 0) (hm : Mates p s m) :
    Mates p (if s.ahead then (if o || decide (s.since + 1 = 12) then { s with since := s.since + 1 }.returns else { s with since := s.since + 1 }) else s) m := by
  split
  · rename_i ha
    split
    · exact ⟨h, hm.fm, hm.value, fun _ => hm.back ha, fun e => by simp [Spc.returns] at e, hm.len⟩
    · exact ⟨h, hm.fm, hm.value, fun e => by simp [ha] at e, fun _ => hm.back ha, hm.len⟩
  · exact hm
/-- a step ahead of time -/
theorem step_ahead {p : LProg} {i : LIns} {s : Spc} {m : Mach} (h : Mates p s m) (ha : s.ahead = true) : Mates p (stepS p i s) m := by
  have hk := doS_ahead p i { s with steps := s.steps + 1, seen := s.seen ++ [⟨1, s.pl.at_, 0⟩] } ha
  refine shut_step (by rw [hk.fin]; exact h.fs) ⟨by rw [hk.fin]; exact h.fs, h.fm, by rw [hk.value]; exact h.value, fun e => by simp [hk.ahead] at e, fun _ => by rw [hk.back]; exact h.back ha, h.len⟩
/-- a step that is not ahead of time -/
theorem step_on {p : LProg} (hp : hardOk p = true) {i : LIns} {s : Spc} {m : Mach} (h : Mates p s m) (ha : s.ahead = false) (hi : i ∈ p.code) :
    ((stepM p i m).fin = 0 → Mates p (stepS p i s) (stepM p i m)) ∧
      ((stepM p i m).fin ≠ 0 → (stepS p i s).fin = (stepM p i m).fin ∧ (stepS p i s).value = (stepM p i m).value ∧ (stepS p i s).ahead = false ∧ (stepS p i s).pl.words = (stepM p i m).words) := by
  have hl := stepM_len p i m
  -- what it shows has no bearing on the rest
  obtain ⟨m1, e1, e2⟩ : ∃ m1 : Mach, m1.seen = s.seen ∧ m1 = { m with seen := s.seen } := ⟨{ m with seen := s.seen }, rfl, rfl⟩
  have hat := h.on ha
  have hd0 : Does (doS p i { s with steps := s.steps + 1, seen := s.seen ++ [⟨1, s.pl.at_, 0⟩] }) (stepM p i m1) := by
    subst e2
    exact doS_plain p i _ _ hp hi ha h.fs hat h.fm h.value (by simp [hat.2.2]) h.len
  have em : (stepM p i m1).regs = (stepM p i m).regs ∧ (stepM p i m1).words = (stepM p i m).words ∧ (stepM p i m1).at_ = (stepM p i m).at_ ∧ (stepM p i m1).fin = (stepM p i m).fin ∧ (stepM p i m1).value = (stepM p i m).value := by
    subst e2
    simp only [stepM]
    repeat' split
    all_goals simp
  obtain ⟨f1, f2, f3, f4, f5⟩ := em
  obtain ⟨g1, g2, g3, g4, g5, g6⟩ := hd0
  unfold At at g4 g5
  rw [f1, f2, f3] at g4 g5
  rw [f4] at g1
  rw [f5] at g2
  rw [f2] at g6
  refine ⟨fun h0 => ?_, fun h0 => ?_⟩
  · have hz : (doS p i { s with steps := s.steps + 1, seen := s.seen ++ [⟨1, s.pl.at_, 0⟩] }).fin = 0 := by rw [g1, h0]
    exact shut_step hz ⟨hz, h0, g2, fun e => g4 e hz, fun e => (g5 e).2, by rw [hl, h.len]⟩
  · have hna : (doS p i { s with steps := s.steps + 1, seen := s.seen ++ [⟨1, s.pl.at_, 0⟩] }).ahead = false := by
      cases hc : (doS p i { s with steps := s.steps + 1, seen := s.seen ++ [⟨1, s.pl.at_, 0⟩] }).ahead
      · rfl
      · exact absurd ((g1.symm.trans (g5 hc).1)) h0
    simp only [stepS, hna]
    exact ⟨g1, g2, hna, g6 (by rw [g1]; exact h0)⟩

theorem upS_none {p : LProg} {s : Spc} (h : p.code[(upS p s).pl.at_]? = none) : (upS p s).ahead = false := by
  unfold upS at h ⊢
  split
  · rfl
  · rename_i hn
    rw [if_neg hn] at h
    cases ha : s.ahead
    · rfl
    · exact absurd ⟨ha, List.getElem?_eq_none_iff.1 h⟩ hn
/-- WHAT IS DONE AHEAD OF TIME IS TAKEN BACK -/
theorem runS_back {p : LProg} (hp : hardOk p = true) : ∀ (k : Nat) (s : Spc) (m : Mach), Mates p s m → (runS p k s).fin ≠ 0 →
    ∃ j, j ≤ k ∧ (runM p j m).fin = (runS p k s).fin ∧ (runM p j m).value = (runS p k s).value ∧ (runM p j m).words = (endS (runS p k s)).pl.words
  | 0, s, m, h, hf => absurd h.fs hf
  | k + 1, s, m, h, hf => by
    have hu := mates_up h
    rw [runS, if_neg (by simp [h.fs])] at hf ⊢
    have hn := @upS_none p s
    generalize upS p s = s1 at *
    cases hc : p.code[s1.pl.at_]? with
    | none =>
      have ha := hn hc
      have hat := hu.on ha
      refine ⟨1, by omega, ?_⟩
      rw [runM, if_neg (by simp [hu.fm]), ← hat.2.2, hc]
      simp [endS, ha, hu.value, hat.2.1]
    | some i =>
      simp only [hc] at hf
      dsimp only
      have hi : i ∈ p.code := List.mem_of_getElem? hc
      cases ha : s1.ahead
      · have hst := step_on hp hu ha hi
        have hat := (hu.on ha).2.2
        by_cases hz : (stepM p i m).fin = 0
        · obtain ⟨j, j1, j2, j3, j4⟩ := runS_back hp k _ _ (hst.1 hz) hf
          refine ⟨j + 1, by omega, ?_⟩
          rw [runM, if_neg (by simp [hu.fm]), ← hat, hc]
          exact ⟨j2, j3, j4⟩
        · obtain ⟨b1, b2, b3, b4⟩ := hst.2 hz
          have hend : runS p k (stepS p i s1) = stepS p i s1 := by
            cases k with
            | zero => rfl
            | succ k => rw [runS, if_pos (by rw [b1]; exact hz)]
          refine ⟨1, by omega, ?_⟩
          rw [runM, if_neg (by simp [hu.fm]), ← hat, hc, hend]
          simp [runM, b1, b2, b4, endS, b3]
      · obtain ⟨j, j1, j2⟩ := runS_back hp k _ _ (step_ahead hu ha) hf
        exact ⟨j, by omega, j2⟩
theorem runS_back_start {p : LProg} (hp : hardOk p = true) (ws script : List Int) (hl : ws.length = total p) (k : Nat) (h : (runS p k (startS ws script)).fin ≠ 0) :
    (runM p k (start ws)).fin = (runS p k (startS ws script)).fin ∧ (runM p k (start ws)).value = (runS p k (startS ws script)).value ∧ (runM p k (start ws)).words = (endS (runS p k (startS ws script))).pl.words := by
  obtain ⟨j, h1, h2, h3, h4⟩ := runS_back hp k (startS ws script) (start ws) ⟨rfl, rfl, rfl, fun _ => ⟨rfl, rfl, rfl⟩, fun e => by simp [startS] at e, hl⟩ h
  obtain ⟨d, rfl⟩ : ∃ d, k = j + d := ⟨k - j, by omega⟩
  rw [runM_add, runM_end (by rw [h2]; exact h)]
  exact ⟨h2, h3, h4⟩

/-! without choices -/
def zeros (l : List Int) : Prop := ∀ x ∈ l, x = 0
theorem zeros_tail {l : List Int} (h : zeros l) : zeros l.tail := fun x hx => h x (List.mem_of_mem_tail hx)
theorem zeros_head {l : List Int} (h : zeros l) : l.headD 0 = 0 := by
  cases l with
  | nil => rfl
  | cons a l => exact h a (by simp)
theorem doS_zeros (p : LProg) (i : LIns) (s : Spc) (hA : s.ahead = false) (hz : zeros s.script) : (doS p i s).ahead = false ∧ zeros (doS p i s).script := by
  have hc : s.choice = 0 := zeros_head hz
  have ht := zeros_tail hz
  have htk : ∀ (n : Nat) (s : Spc), s.ahead = false → zeros s.script → (takeS i n s).ahead = false ∧ zeros (takeS i n s).script := by
    intro n s h hz
    have hc : s.choice = 0 := zeros_head hz
    simp only [takeS, hc]
    rw [if_neg (by simp)]
    exact ⟨h, zeros_tail hz⟩
  simp only [doS]
  split
  · exact ⟨hA, hz⟩
  split
  · simp only [branchS, hc, if_true]
    exact ⟨hA, ht⟩
  split
  · rw [if_neg (by simp [hA])]; exact ⟨hA, hz⟩
  split
  · exact ⟨hA, hz⟩
  split
  · simp only [wordS]
    split
    · exact ⟨hA, hz⟩
    split
    · split
      · exact ⟨hA, hz⟩
      · exact htk _ _ hA hz
    · split <;> exact ⟨hA, hz⟩
  · exact ⟨hA, hz⟩
structure Same_ (p : LProg) (s : Spc) (m : Mach) : Prop where
  mates : Mates p s m
  ahead : s.ahead = false
  zeros : zeros s.script
  seen : s.seen = m.seen
  steps : s.steps = m.steps
theorem runS_zeros {p : LProg} (hp : hardOk p = true) : ∀ (k : Nat) (s : Spc) (m : Mach), Same_ p s m →
    (runS p k s).fin = (runM p k m).fin ∧ (runS p k s).value = (runM p k m).value ∧ (runS p k s).steps = (runM p k m).steps ∧ (runS p k s).seen = (runM p k m).seen ∧ (endS (runS p k s)).pl.words = (runM p k m).words
  | 0, s, m, h => by
    have := (h.mates.on h.ahead).2.1
    simp [runS, runM, h.mates.fs, h.mates.fm, h.mates.value, h.seen, h.steps, endS, h.ahead, this]
  | k + 1, s, m, h => by
    have hu : upS p s = s := by unfold upS; rw [if_neg (by simp [h.ahead])]
    have hat := h.mates.on h.ahead
    rw [runS, runM, if_neg (by simp [h.mates.fs]), if_neg (by simp [h.mates.fm]), hu, ← hat.2.2]
    cases hc : p.code[s.pl.at_]? with
    | none => simp [h.mates.value, h.seen, h.steps, endS, h.ahead, hat.2.1]
    | some i =>
      have hi : i ∈ p.code := List.mem_of_getElem? hc
      have hst := step_on hp h.mates h.ahead hi
      have hz := doS_zeros p i { s with steps := s.steps + 1, seen := s.seen ++ [⟨1, s.pl.at_, 0⟩] } h.ahead h.zeros
      have hstep : stepS p i s = doS p i { s with steps := s.steps + 1, seen := s.seen ++ [⟨1, s.pl.at_, 0⟩] } := by
        simp only [stepS, hz.1]; simp
      have hd := doS_plain p i { s with steps := s.steps + 1, seen := s.seen ++ [⟨1, s.pl.at_, 0⟩] } m hp hi h.ahead h.mates.fs hat h.mates.fm h.mates.value (by simp [h.seen, hat.2.2]) h.mates.len
      have hk := stepS_steps p i s
      rw [hstep] at hst hk
      dsimp only
      rw [hstep]
      by_cases h0 : (stepM p i m).fin = 0
      · exact runS_zeros hp k _ _ ⟨hst.1 h0, hz.1, hz.2, hd.seen, by rw [hk, stepM_steps, h.steps]⟩
      · have e1 : runM p k (stepM p i m) = stepM p i m := runM_end h0 k
        have h1 : (doS p i { s with steps := s.steps + 1, seen := s.seen ++ [⟨1, s.pl.at_, 0⟩] }).fin ≠ 0 := by rw [hd.fin]; exact h0
        have e2 : runS p k (doS p i { s with steps := s.steps + 1, seen := s.seen ++ [⟨1, s.pl.at_, 0⟩] }) = doS p i { s with steps := s.steps + 1, seen := s.seen ++ [⟨1, s.pl.at_, 0⟩] } := by
          cases k with
          | zero => rfl
          | succ k => rw [runS, if_pos h1]
        rw [e1, e2]
        refine ⟨hd.fin, hd.value, by rw [hk, stepM_steps, h.steps], hd.seen, ?_⟩
        simp only [endS, hz.1]
        exact hd.words h1
theorem runS_zeros_start {p : LProg} (hp : hardOk p = true) (ws script : List Int) (hl : ws.length = total p) (hz : zeros script) (k : Nat) :
    (runS p k (startS ws script)).fin = (runM p k (start ws)).fin ∧ (runS p k (startS ws script)).value = (runM p k (start ws)).value ∧ (runS p k (startS ws script)).steps = (runM p k (start ws)).steps ∧
      (runS p k (startS ws script)).seen = (runM p k (start ws)).seen ∧ (endS (runS p k (startS ws script))).pl.words = (runM p k (start ws)).words :=
  runS_zeros hp k _ _ ⟨⟨rfl, rfl, rfl, fun _ => ⟨rfl, rfl, rfl⟩, fun e => by simp [startS] at e, hl⟩, rfl, hz, rfl, rfl⟩

/-- something is shown at once -/
theorem doS_seen (p : LProg) (i : LIns) (s : Spc) : ∃ t, (doS p i s).seen = s.seen ++ t := by
  have htk : ∀ (n : Nat) (s : Spc), (takeS i n s).seen = s.seen := by
    intro n s
    simp only [takeS]
    split <;> simp [Spc.goTo, Spc.chosen, Spc.put_]
  simp only [doS]
  split
  · exact ⟨[], by simp [Spc.goTo]⟩
  split
  · refine ⟨[], ?_⟩
    simp only [branchS]
    split <;> simp [Spc.goTo, Spc.chosen]
  split
  · refine ⟨[], ?_⟩
    split <;> simp [Spc.goTo]
  split
  · exact ⟨[], by simp [Spc.goTo]⟩
  split
  · simp only [wordS]
    split
    · exact ⟨[], by simp⟩
    split
    · split
      · exact ⟨_, rfl⟩
      · exact ⟨_, htk _ _⟩
    · split
      · exact ⟨_, rfl⟩
      · exact ⟨_, rfl⟩
  · exact ⟨_, rfl⟩
theorem stepS_seen (p : LProg) (i : LIns) (s : Spc) : ∃ t, (stepS p i s).seen = s.seen ++ ⟨1, s.pl.at_, 0⟩ :: t := by
  obtain ⟨t, ht⟩ := doS_seen p i { s with steps := s.steps + 1, seen := s.seen ++ [⟨1, s.pl.at_, 0⟩] }
  simp only [stepS]
  split
  · split
    · exact ⟨t ++ [⟨4, 0, 0⟩], by simp [Spc.returns, ht]⟩
    · exact ⟨t, by simp [ht]⟩
  · exact ⟨t, by simp [ht]⟩
theorem runS_seen (p : LProg) : ∀ (k : Nat) (s : Spc), ∃ t, (runS p k s).seen = s.seen ++ t
  | 0, s => ⟨[], by simp [runS]⟩
  | k + 1, s => by
    rw [runS]
    by_cases h : s.fin ≠ 0
    · exact ⟨[], by rw [if_pos h]; simp⟩
    · rw [if_neg h]
      obtain ⟨v, hv⟩ : ∃ v, (upS p s).seen = s.seen ++ v := by
        unfold upS
        split
        · exact ⟨_, rfl⟩
        · exact ⟨[], by simp⟩
      cases hc : p.code[(upS p s).pl.at_]? with
      | none => exact ⟨v, by simp [hv]⟩
      | some i =>
        obtain ⟨t, ht⟩ := stepS_seen p i (upS p s)
        obtain ⟨u, hu⟩ := runS_seen p k (stepS p i (upS p s))
        exact ⟨v ++ ⟨1, (upS p s).pl.at_, 0⟩ :: t ++ u, by dsimp only; rw [hu, ht, hv]; simp⟩
theorem runS_shows (p : LProg) (s : Spc) (hm : s.pl.at_ < p.code.length) (h0 : s.fin = 0) (hA : s.ahead = false) (k : Nat) (hk : 0 < k) : (runS p k s).seen ≠ [] := by
  obtain ⟨k, rfl⟩ : ∃ j, k = j + 1 := ⟨k - 1, by omega⟩
  have hu : upS p s = s := by unfold upS; rw [if_neg (by simp [hA])]
  rw [runS, if_neg (by simp [h0]), hu, List.getElem?_eq_getElem hm]
  obtain ⟨t, ht⟩ := stepS_seen p p.code[s.pl.at_] s
  obtain ⟨u, hu⟩ := runS_seen p k (stepS p p.code[s.pl.at_] s)
  simp only []
  rw [hu, ht]
  simp
end Go.Proofs.Yteiknefajlocoaa
/- Two runs with steps ahead of time show the same, where all places that they come to are alike in what is public. No program in sight. -/
namespace Go.Proofs.Yteiknefajlocoaa
open Go.RowKit
set_option linter.unusedSimpArgs false
set_option linter.unusedVariables false

/-! an instruction, by what it does to a place -/
def isWord (i : LIns) : Bool := isPut i || isTake i
def wordN (p : LProg) (i : LIns) (a : Plc) : Int := wrap64 (baseOf p i.c.toNat + idxOf a.regs i)
def thereB (p : LProg) (i : LIns) (a : Plc) : Bool := decide (0 ≤ wordN p i a) && decide (wordN p i a < a.words.length)
def seesP (p : LProg) (i : LIns) (a : Plc) : List LSee :=
  if i.op = 7 ∨ i.op = 8 ∨ i.op = 9 ∨ i.op = 12 then [] else if isWord i then [⟨2, wordN p i a, putN i⟩] else plainS a.regs i
def usesC (p : LProg) (i : LIns) (a : Plc) : Bool := decide (i.op = 8) || (isTake i && thereB p i a)
def rightP (p : LProg) (i : LIns) (a : Plc) : Plc :=
  if i.op = 7 then { a with at_ := i.n.toNat }
  else if i.op = 8 then { a with at_ := if nholds i.c (rg a.regs i.a) (rg a.regs i.b) then i.n.toNat else a.at_ + 1 }
  else if i.op = 9 ∨ i.op = 12 then { a with at_ := a.at_ + 1 }
  else if isPut i then
    (if thereB p i a then { a with at_ := a.at_ + 1, past := a.past.set (wordN p i a).toNat (a.past.getD (wordN p i a).toNat [] ++ [a.words.getD (wordN p i a).toNat 0]), words := a.words.set (wordN p i a).toNat (rg a.regs i.a) }
    else { a with at_ := a.at_ + 1 })
  else if isTake i then { a with at_ := a.at_ + 1, regs := rset a.regs i.a (if thereB p i a then a.words.getD (wordN p i a).toNat 0 else 0) }
  else { a with at_ := a.at_ + 1, regs := plainR a.regs i }
def wrongP (p : LProg) (i : LIns) (a : Plc) (c : Int) : Option Plc :=
  if i.op = 8 then (if c = 0 then none else some { a with at_ := if nholds i.c (rg a.regs i.a) (rg a.regs i.b) then a.at_ + 1 else i.n.toNat })
  else if isTake i && thereB p i a then
    (if 0 < c ∧ c ≤ (a.past.getD (wordN p i a).toNat []).length then
      some { a with at_ := a.at_ + 1, regs := rset (rset a.regs i.a (a.words.getD (wordN p i a).toNat 0)) i.a ((a.past.getD (wordN p i a).toNat []).getD ((a.past.getD (wordN p i a).toNat []).length - c.toNat) 0) }
    else none)
  else none
def goesP (p : LProg) (i : LIns) (s : Spc) : Spc :=
  let s' := { s with seen := s.seen ++ seesP p i s.pl, pl := rightP p i s.pl, script := if usesC p i s.pl then s.script.tail else s.script }
  match wrongP p i s.pl s.choice with
  | none => s'
  | some w => { s'.leave with pl := w }
theorem word_ops {i : LIns} (h : isWord i = true) : i.op = 3 ∨ i.op = 4 ∨ i.op = 5 ∨ i.op = 6 := by
  simp only [isWord, isPut, isTake, Bool.or_eq_true, decide_eq_true_eq] at h
  omega
theorem take_goes (p : LProg) (i : LIns) (s : Spc) (hw : isTake i = true) (hp : isPut i = false) (hn : thereB p i s.pl = true) (h8 : ¬ i.op = 8) (k : Nat) (hk : (wordN p i s.pl).toNat = k) (sn : List LSee) :
    takeS i k { s with seen := sn } = (match wrongP p i s.pl s.choice with
      | none => { s with seen := sn, pl := rightP p i s.pl, script := s.script.tail }
      | some w => { ({ s with seen := sn, pl := rightP p i s.pl, script := s.script.tail } : Spc).leave with pl := w }) := by
  have h7 : ¬ i.op = 7 := by intro h; simp [isTake, h] at hw
  have h9 : ¬ (i.op = 9 ∨ i.op = 12) := by rintro (h | h) <;> simp [isTake, h] at hw
  subst hk
  have hr : rightP p i s.pl = { s.pl with at_ := s.pl.at_ + 1, regs := rset s.pl.regs i.a (s.pl.words.getD (wordN p i s.pl).toNat 0) } := by
    unfold rightP
    rw [if_neg h7, if_neg h8, if_neg h9, hp, if_neg (by simp), hw, if_pos rfl, hn, if_pos rfl]
  have hwr : wrongP p i s.pl s.choice = if 0 < s.choice ∧ s.choice ≤ (s.pl.past.getD (wordN p i s.pl).toNat []).length then
      some { s.pl with at_ := s.pl.at_ + 1, regs := rset (rset s.pl.regs i.a (s.pl.words.getD (wordN p i s.pl).toNat 0)) i.a ((s.pl.past.getD (wordN p i s.pl).toNat []).getD ((s.pl.past.getD (wordN p i s.pl).toNat []).length - s.choice.toNat) 0) } else none := by
    unfold wrongP
    rw [if_neg h8, hw, hn]
    rfl
  rw [hwr, hr]
  unfold takeS
  by_cases hc : 0 < s.choice ∧ s.choice ≤ (s.pl.past.getD (wordN p i s.pl).toNat []).length
  · rw [if_pos hc]
    refine Eq.trans (if_pos hc) ?_
    simp only [Spc.goTo, Spc.chosen, Spc.put_, Spc.leave]
    cases s.ahead <;> rfl
  · rw [if_neg hc]
    exact if_neg hc
theorem doS_goes (p : LProg) (i : LIns) (s : Spc) (h9 : i.op = 9 → s.ahead = true) (hin : isWord i = true → insideB p i (idxOf s.pl.regs i) = true ∨ s.ahead = true) : doS p i s = goesP p i s := by
  unfold doS goesP
  split
  · rename_i h
    simp [wrongP, seesP, usesC, rightP, h, Spc.goTo, isTake]
  split
  · rename_i h7 h
    have hr : rightP p i s.pl = { s.pl with at_ := if nholds i.c (rg s.pl.regs i.a) (rg s.pl.regs i.b) then i.n.toNat else s.pl.at_ + 1 } := by
      unfold rightP
      rw [if_neg h7, if_pos h]
    have hs : seesP p i s.pl = [] := by simp [seesP, h]
    have hu : usesC p i s.pl = true := by simp [usesC, h]
    rw [hr, hs, hu, if_pos rfl, List.append_nil]
    unfold branchS wrongP
    rw [if_pos h]
    by_cases hc : s.choice = 0
    · rw [if_pos hc, if_pos hc]
      rfl
    · rw [if_neg hc, if_neg hc]
      simp only [Spc.goTo, Spc.chosen, leave_pl]
  split
  · rename_i h7 h8 h
    rw [if_pos (h9 h)]
    simp [wrongP, seesP, usesC, rightP, h, Spc.goTo, isTake]
  split
  · rename_i h
    simp [wrongP, seesP, usesC, rightP, h, Spc.goTo, isTake]
  split
  · rename_i h7 h8 h9' h12 hw
    have hw' : isWord i = true := hw
    have hno : (!insideB p i (idxOf s.pl.regs i) && !s.ahead) = false := by
      rcases hin hw' with h | h <;> simp [h]
    have hs : seesP p i s.pl = [⟨2, wordN p i s.pl, putN i⟩] := by
      simp [seesP, h7, h8, h9', h12, hw']
    have e912 : ¬ (i.op = 9 ∨ i.op = 12) := by omega
    unfold wordS
    refine Eq.trans (if_neg (by rw [hno]; simp)) ?_
    rw [hs]
    by_cases hn : thereB p i s.pl = true
    · have hn' := hn
      simp only [thereB, Bool.and_eq_true, decide_eq_true_eq] at hn'
      refine Eq.trans (if_pos hn') ?_
      cases hp : isPut i
      · have ht : isTake i = true := by simpa [hp] using hw
        rw [if_neg (by simp)]
        have := take_goes p i s ht hp hn h8 (wrap64 (baseOf p i.c.toNat + idxOf s.pl.regs i)).toNat rfl (s.seen ++ [⟨2, wordN p i s.pl, putN i⟩])
        rw [show usesC p i s.pl = true by simp [usesC, ht, hn], if_pos rfl]
        exact this
      · have ht : isTake i = false := by
          rcases word_ops hw' with h | h | h | h <;> simp [isPut, isTake, h] at hp ⊢
        have hwr : wrongP p i s.pl s.choice = none := by
          unfold wrongP; rw [if_neg h8, ht]; rfl
        have hu : usesC p i s.pl = false := by simp [usesC, ht, h8]
        rw [hwr, hu, if_pos rfl, if_neg (by simp)]
        unfold rightP
        rw [if_neg h7, if_neg h8, if_neg e912, hp, if_pos rfl, hn, if_pos rfl]
        rfl
    · have hn1 : thereB p i s.pl = false := by simpa using hn
      have hn2 : ¬ (0 ≤ wrap64 (baseOf p i.c.toNat + idxOf s.pl.regs i) ∧ wrap64 (baseOf p i.c.toNat + idxOf s.pl.regs i) < s.pl.words.length) := by
        intro h
        apply hn
        simp only [thereB, Bool.and_eq_true, decide_eq_true_eq]
        exact h
      refine Eq.trans (if_neg hn2) ?_
      have hwr : wrongP p i s.pl s.choice = none := by
        unfold wrongP; rw [if_neg h8, hn1, Bool.and_false]; rfl
      have hu : usesC p i s.pl = false := by simp [usesC, hn1, h8]
      rw [hwr, hu]
      unfold rightP
      rw [if_neg h7, if_neg h8, if_neg e912, hn1]
      cases hp : isPut i
      · have ht : isTake i = true := by simpa [hp] using hw
        rw [ht]
        rfl
      · rfl
  · rename_i h7 h8 h9' h12 hw
    have hpt : isPut i = false ∧ isTake i = false := by simpa using hw
    have hw' : isWord i = false := by simp [isWord, hpt]
    simp [wrongP, seesP, usesC, rightP, h7, h8, h9', h12, hpt, hw']

/-- WHAT IS ASKED of two kinds of places that two runs come to: where they are not ahead of time (IN), and where they are (IA). -/
structure Sys (p : LProg) (C : Int → Prop) (IN IA : Plc → Plc → Prop) (End : List Int → List Int → Prop) : Prop where
  at_ : ∀ a b, IA a b → a.at_ = b.at_
  inc : ∀ a b, IN a b → IA a b
  mem : ∀ a b, IN a b → End a.words b.words
  uses : ∀ a b i, IA a b → p.code[a.at_]? = some i → usesC p i a = usesC p i b
  sees : ∀ a b i, IA a b → p.code[a.at_]? = some i → seesP p i a = seesP p i b
  wrong : ∀ a b i c, IA a b → p.code[a.at_]? = some i → C c → (wrongP p i a c = none ∧ wrongP p i b c = none) ∨ ∃ x y, wrongP p i a c = some x ∧ wrongP p i b c = some y ∧ IA x y
  right : ∀ a b i, IA a b → p.code[a.at_]? = some i → i.op ≠ 9 → i.op ≠ 12 → IA (rightP p i a) (rightP p i b)
  rightN : ∀ a b i, IN a b → p.code[a.at_]? = some i → i.op ≠ 9 → IN (rightP p i a) (rightP p i b)
  inside : ∀ a b i, IN a b → p.code[a.at_]? = some i → isWord i = true → insideB p i (idxOf a.regs i) = true ∧ insideB p i (idxOf b.regs i) = true
  halt : ∀ a b i, IN a b → p.code[a.at_]? = some i → i.op = 9 → rg a.regs i.a = rg b.regs i.a
structure SRel (C : Int → Prop) (IN IA : Plc → Plc → Prop) (End : List Int → List Int → Prop) (s t : Spc) : Prop where
  fin : s.fin = t.fin
  value : s.value = t.value
  steps : s.steps = t.steps
  seen : s.seen = t.seen
  script : s.script = t.script
  ahead : s.ahead = t.ahead
  since : s.since = t.since
  choices : C 0 ∧ ∀ c ∈ s.script, C c
  on : s.ahead = false → s.fin = 0 → IN s.pl t.pl
  end_ : s.fin ≠ 0 → s.ahead = false ∧ End s.pl.words t.pl.words
  ah : s.ahead = true → s.fin = 0 ∧ IA s.pl t.pl ∧ IN s.back t.back
section
variable {p : LProg} {C : Int → Prop} {IN IA : Plc → Plc → Prop} {End : List Int → List Int → Prop} {s t : Spc}
theorem srel_up (h : SRel C IN IA End s t) (sys : Sys p C IN IA End) (h0 : s.fin = 0) : SRel C IN IA End (upS p s) (upS p t) := by
  unfold upS
  cases ha : s.ahead
  · have hb : t.ahead = false := by rw [← h.ahead]; exact ha
    rw [if_neg (by simp), if_neg (by simp [hb])]
    exact h
  · have hb : t.ahead = true := by rw [← h.ahead]; exact ha
    obtain ⟨g1, g2, g3⟩ := h.ah ha
    have e := sys.at_ _ _ g2
    by_cases hl : p.code.length ≤ s.pl.at_
    · rw [if_pos ⟨rfl, hl⟩, if_pos ⟨hb, by rw [← e]; exact hl⟩]
      exact ⟨h.fin, h.value, h.steps, by simp [Spc.returns, h.seen], h.script, rfl, h.since, h.choices, fun _ _ => g3, fun k => absurd h0 k, fun k => by simp [Spc.returns] at k⟩
    · rw [if_neg (by simp [hl]), if_neg (by rw [← e]; simp [hl])]
      exact h
theorem mem_tail {c : Int} {l : List Int} (h : c ∈ l.tail) : c ∈ l := List.mem_of_mem_tail h
theorem choices_tail {u : Bool} {l : List Int} (h : C 0 ∧ ∀ c ∈ l, C c) : C 0 ∧ ∀ c ∈ (if u then l.tail else l), C c := by
  refine ⟨h.1, fun c hc => h.2 c ?_⟩
  split at hc
  · exact mem_tail hc
  · exact hc
theorem choice_in (h : C 0 ∧ ∀ c ∈ s.script, C c) : C s.choice := by
  unfold Spc.choice
  cases hs : s.script with
  | nil => exact h.1
  | cons c l => exact h.2 c (by simp [hs])
/-- what stays the same while something goes on -/
theorem goes_rel (sys : Sys p C IN IA End) {i : LIns} (h0 : s.fin = 0) (hfin : t.fin = 0) (hv : s.value = t.value) (hst : s.steps = t.steps) (hse : s.seen = t.seen) (hsc : s.script = t.script) (hah : s.ahead = t.ahead) (hsi : s.since = t.since)
    (hc : C 0 ∧ ∀ c ∈ s.script, C c) (hi : p.code[s.pl.at_]? = some i) (hA : IA s.pl t.pl) (hN : s.ahead = false → IN s.pl t.pl ∧ i.op ≠ 9) (hB : s.ahead = true → IN s.back t.back)
    (hR : s.ahead = true → i.op ≠ 9 → i.op ≠ 12 → IA (rightP p i s.pl) (rightP p i t.pl)) :
    (goesP p i s).fin = 0 ∧ (goesP p i t).fin = 0 ∧ (goesP p i s).value = (goesP p i t).value ∧ (goesP p i s).steps = (goesP p i t).steps ∧ (goesP p i s).seen = (goesP p i t).seen ∧ (goesP p i s).script = (goesP p i t).script ∧
      (goesP p i s).ahead = (goesP p i t).ahead ∧ (goesP p i s).since = (goesP p i t).since ∧ (C 0 ∧ ∀ c ∈ (goesP p i s).script, C c) ∧
      ((goesP p i s).ahead = false → IN (goesP p i s).pl (goesP p i t).pl) ∧
      ((goesP p i s).ahead = true → IN (goesP p i s).back (goesP p i t).back ∧ (i.op ≠ 9 → i.op ≠ 12 → IA (goesP p i s).pl (goesP p i t).pl) ∧ (s.ahead = false → IA (goesP p i s).pl (goesP p i t).pl)) := by
  have e1 := sys.sees _ _ i hA hi
  have e2 := sys.uses _ _ i hA hi
  have hch := choices_tail (u := usesC p i s.pl) hc
  have hcc : s.choice = t.choice := by unfold Spc.choice; rw [hsc]
  have hw := sys.wrong _ _ i s.choice hA hi (choice_in hc)
  unfold goesP
  rw [← hcc, ← e1, ← e2]
  rcases hw with ⟨w1, w2⟩ | ⟨x, y, w1, w2, hxy⟩
  · rw [w1, w2]
    refine ⟨h0, hfin, hv, hst, by rw [hse], by rw [hsc], hah, hsi, hch, fun ha => ?_, fun ha => ⟨hB ha, fun n9 n12 => hR ha n9 n12, fun hf => by simp [hf] at ha⟩⟩
    have := hN ha
    exact sys.rightN _ _ i this.1 hi this.2
  · rw [w1, w2]
    refine ⟨by simp [h0], by simp [hfin], by simp [hv], by simp [hst], by simp [hse], by simp [hsc], by simp, by simp [hah, hsi], by simpa using hch, fun ha => by simp at ha, fun _ => ⟨?_, fun _ _ => hxy, fun _ => hxy⟩⟩
    cases ha : s.ahead
    · have hb : t.ahead = false := by rw [← hah]; exact ha
      have := hN ha
      simp only [leave_back, ha, hb]
      exact sys.rightN _ _ i this.1 hi this.2
    · have hb : t.ahead = true := by rw [← hah]; exact ha
      simp only [leave_back, ha, hb]
      exact hB ha
theorem srel_step (h : SRel C IN IA End s t) (sys : Sys p C IN IA End) (h0 : s.fin = 0) {i : LIns} (hi : p.code[s.pl.at_]? = some i) : SRel C IN IA End (stepS p i s) (stepS p i t) := by
  obtain ⟨s0, es⟩ : ∃ s0 : Spc, s0 = { s with steps := s.steps + 1, seen := s.seen ++ [⟨1, s.pl.at_, 0⟩] } := ⟨_, rfl⟩
  obtain ⟨t0, et⟩ : ∃ t0 : Spc, t0 = { t with steps := t.steps + 1, seen := t.seen ++ [⟨1, t.pl.at_, 0⟩] } := ⟨_, rfl⟩
  have hA : IA s.pl t.pl := by
    cases ha : s.ahead
    · exact sys.inc _ _ (h.on ha h0)
    · exact (h.ah ha).2.1
  have e := sys.at_ _ _ hA
  have hfin : t.fin = 0 := by rw [← h.fin]; exact h0
  have hstS : stepS p i s = if (doS p i s0).ahead then (if overS i s || decide ((doS p i s0).since + 1 = 12) then { doS p i s0 with since := (doS p i s0).since + 1 }.returns else { doS p i s0 with since := (doS p i s0).since + 1 }) else doS p i s0 := by
    rw [es]; rfl
  have hstT : stepS p i t = if (doS p i t0).ahead then (if overS i t || decide ((doS p i t0).since + 1 = 12) then { doS p i t0 with since := (doS p i t0).since + 1 }.returns else { doS p i t0 with since := (doS p i t0).since + 1 }) else doS p i t0 := by
    rw [et]; rfl
  have hover : overS i s = overS i t := by unfold overS; rw [h.ahead]
  by_cases h9 : i.op = 9 ∧ s.ahead = false
  · -- it halts
    obtain ⟨h9, ha⟩ := h9
    have hb : t.ahead = false := by rw [← h.ahead]; exact ha
    have hN := h.on ha h0
    have ds : doS p i s0 = { s0 with fin := 1, value := rg s0.pl.regs i.a } := by
      unfold doS
      rw [if_neg (by omega), if_neg (by omega), if_pos h9, if_neg (by rw [es]; simp [ha])]
    have dt : doS p i t0 = { t0 with fin := 1, value := rg t0.pl.regs i.a } := by
      unfold doS
      rw [if_neg (by omega), if_neg (by omega), if_pos h9, if_neg (by rw [et]; simp [hb])]
    have a1 : (doS p i s0).ahead = false := by rw [ds, es]; exact ha
    have a2 : (doS p i t0).ahead = false := by rw [dt, et]; exact hb
    rw [hstS, hstT, if_neg (by rw [a1]; simp), if_neg (by rw [a2]; simp), ds, dt, es, et]
    exact ⟨rfl, sys.halt _ _ i hN hi h9, by simp [h.steps], by simp [h.seen, e], h.script, h.ahead, h.since, h.choices, fun _ k => by simp at k, fun _ => ⟨ha, sys.mem _ _ hN⟩, fun k => by simp [ha] at k⟩
  · have h9' : i.op = 9 → s.ahead = true := fun k => by
      cases ha : s.ahead
      · exact absurd ⟨k, ha⟩ h9
      · rfl
    have hin : isWord i = true → (insideB p i (idxOf s.pl.regs i) = true ∨ s.ahead = true) ∧ (insideB p i (idxOf t.pl.regs i) = true ∨ t.ahead = true) := fun hw => by
      cases ha : s.ahead
      · have := sys.inside _ _ i (h.on ha h0) hi hw
        exact ⟨.inl this.1, .inl this.2⟩
      · exact ⟨.inr rfl, .inr (by rw [← h.ahead]; exact ha)⟩
    have gs : doS p i s0 = goesP p i s0 := doS_goes p i s0 (by rw [es]; exact h9') (by rw [es]; exact fun hw => (hin hw).1)
    have gt : doS p i t0 = goesP p i t0 := doS_goes p i t0 (by rw [et]; exact fun k => by rw [← h.ahead]; exact h9' k) (by rw [et]; exact fun hw => (hin hw).2)
    have G := goes_rel (s := s0) (t := t0) sys (i := i) (by rw [es]; exact h0) (by rw [et]; exact hfin) (by rw [es, et]; exact h.value) (by rw [es, et]; simp [h.steps]) (by rw [es, et]; simp [h.seen, e]) (by rw [es, et]; exact h.script) (by rw [es, et]; exact h.ahead) (by rw [es, et]; exact h.since)
      (by rw [es]; exact h.choices) (by rw [es]; exact hi) (by rw [es, et]; exact hA)
      (by rw [es, et]; exact fun ha => ⟨h.on ha h0, fun k => by rw [h9' k] at ha; cases ha⟩) (by rw [es, et]; exact fun ha => (h.ah ha).2.2) (by rw [es, et]; exact fun _ n9 n12 => sys.right _ _ i hA hi n9 n12)
    have ovs : s0.ahead = s.ahead := by rw [es]
    rw [hstS, hstT, gs, gt, ← hover]
    obtain ⟨k1, k2, k3, k4, k5, k6, k7, k8, k9, k10, k11⟩ := G
    generalize goesP p i s0 = s1 at *
    generalize goesP p i t0 = t1 at *
    rw [← k7, ← k8]
    cases ha : s1.ahead
    · rw [if_neg (by simp), if_neg (by simp)]
      exact ⟨by rw [k1, k2], k3, k4, k5, k6, by rw [← k7], k8, k9, fun _ _ => k10 ha, fun k => absurd k1 k, fun k => by rw [ha] at k; cases k⟩
    · rw [if_pos rfl, if_pos rfl]
      obtain ⟨b1, b2, b3⟩ := k11 ha
      cases ho : overS i s || decide (s1.since + 1 = 12)
      · rw [if_neg (by simp), if_neg (by simp)]
        refine ⟨by simp [k1, k2], k3, k4, k5, k6, by simp [← k7], by simp, k9, fun k => by simp [ha] at k, fun k => absurd k1 k, fun _ => ⟨k1, ?_, b1⟩⟩
        cases hs : s.ahead
        · exact b3 (by rw [ovs, hs])
        · refine b2 (fun n9 => ?_) (fun n12 => ?_)
          · simp [overS, n9, hs] at ho
          · simp [overS, n12] at ho
      · rw [if_pos rfl, if_pos rfl]
        exact ⟨by simp [Spc.returns, k1, k2], k3, k4, by simp [Spc.returns, k5], k6, rfl, by simp [Spc.returns], k9, fun _ _ => b1, fun k => absurd k1 k, fun k => by simp [Spc.returns] at k⟩
/-- TWO RUNS SHOW THE SAME. -/
theorem runS_quiet (sys : Sys p C IN IA End) : ∀ (k : Nat) (s t : Spc), SRel C IN IA End s t → SRel C IN IA End (runS p k s) (runS p k t)
  | 0, s, t, h => by simpa [runS] using h
  | k + 1, s, t, h => by
    rw [runS, runS]
    by_cases h0 : s.fin = 0
    · have h0' : t.fin = 0 := by rw [← h.fin]; exact h0
      rw [if_neg (by simp [h0]), if_neg (by simp [h0'])]
      have hu := srel_up h sys h0
      have hz : (upS p s).fin = 0 := by rw [(upS_steps p s).2.1]; exact h0
      have hns := @upS_none p s
      generalize upS p s = s1 at *
      generalize upS p t = t1 at *
      have hA : s1.pl.at_ = t1.pl.at_ := by
        cases ha : s1.ahead
        · exact sys.at_ _ _ (sys.inc _ _ (hu.on ha hz))
        · exact sys.at_ _ _ (hu.ah ha).2.1
      rw [← hA]
      cases hc : p.code[s1.pl.at_]? with
      | none =>
        have ha := hns hc
        exact ⟨rfl, hu.value, hu.steps, hu.seen, hu.script, hu.ahead, hu.since, hu.choices, fun _ k => by simp at k, fun _ => ⟨ha, sys.mem _ _ (hu.on ha hz)⟩, fun k => by simp [ha] at k⟩
      | some i => exact runS_quiet sys k _ _ (srel_step hu sys hz hc)
    · have h0' : ¬ t.fin = 0 := by rw [← h.fin]; exact h0
      rw [if_pos (by simp [h0]), if_pos (by simp [h0'])]
      exact h
theorem doS_halts (p : LProg) (i : LIns) (s : Spc) (h9 : i.op = 9) (ha : s.ahead = false) : (doS p i s).fin = 1 ∧ (doS p i s).ahead = false := by
  unfold doS
  rw [if_neg (by omega), if_neg (by omega), if_pos h9, if_neg (by simp [ha])]
  exact ⟨rfl, ha⟩
theorem goes_fin (p : LProg) (i : LIns) (s : Spc) : (goesP p i s).fin = s.fin := by
  unfold goesP
  cases wrongP p i s.pl s.choice <;> simp
/-- NOTHING GOES WRONG, where all places are inside. -/
theorem runS_safe (sys : Sys p C IN IA End) (hat : ∀ a b, IN a b → a.at_ < p.code.length) : ∀ (k : Nat) (s t : Spc), SRel C IN IA End s t → s.fin ≠ 2 → (runS p k s).fin ≠ 2
  | 0, s, t, h, hf => by simpa [runS] using hf
  | k + 1, s, t, h, hf => by
    rw [runS]
    by_cases h0 : s.fin = 0
    · rw [if_neg (by simp [h0])]
      have hu := srel_up h sys h0
      have hz : (upS p s).fin = 0 := by rw [(upS_steps p s).2.1]; exact h0
      have hns := @upS_none p s
      generalize upS p s = s1 at *
      generalize upS p t = t1 at *
      cases hc : p.code[s1.pl.at_]? with
      | none =>
        have ha := hns hc
        have := hat _ _ (hu.on ha hz)
        exact absurd (List.getElem?_eq_none_iff.1 hc) (by omega)
      | some i =>
        refine runS_safe sys hat k _ _ (srel_step hu sys hz hc) ?_
        have h2 : (doS p i { s1 with steps := s1.steps + 1, seen := s1.seen ++ [⟨1, s1.pl.at_, 0⟩] }).fin ≠ 2 := by
          by_cases h9 : i.op = 9 ∧ s1.ahead = false
          · rw [(doS_halts p i { s1 with steps := s1.steps + 1, seen := s1.seen ++ [⟨1, s1.pl.at_, 0⟩] } h9.1 h9.2).1]; decide
          · rw [doS_goes p i { s1 with steps := s1.steps + 1, seen := s1.seen ++ [⟨1, s1.pl.at_, 0⟩] } (fun e => ?_) (fun hw => ?_), goes_fin]
            · show s1.fin ≠ 2
              rw [hz]; decide
            · show s1.ahead = true
              cases ha : s1.ahead
              · exact absurd ⟨e, ha⟩ h9
              · rfl
            · show insideB p i (idxOf s1.pl.regs i) = true ∨ s1.ahead = true
              cases ha : s1.ahead
              · exact .inl (sys.inside _ _ i (hu.on ha hz) hc hw).1
              · exact .inr rfl
        simp only [stepS]
        split
        · split
          · exact h2
          · exact h2
        · exact h2
    · rw [if_pos (by simp [h0])]
      exact hf
theorem quiet_end (sys : Sys p C IN IA End) (h : SRel C IN IA End s t) : s.seen = t.seen ∧ s.fin = t.fin ∧ s.value = t.value ∧ s.steps = t.steps ∧ End (endS s).pl.words (endS t).pl.words := by
  refine ⟨h.seen, h.fin, h.value, h.steps, ?_⟩
  unfold endS
  rw [← h.ahead]
  cases ha : s.ahead
  · by_cases h0 : s.fin = 0
    · exact sys.mem _ _ (h.on ha h0)
    · exact (h.end_ h0).2
  · exact sys.mem _ _ (h.ah ha).2.2
end
end Go.Proofs.Yteiknefajlocoaa
