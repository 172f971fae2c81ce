/- WHAT IS KNOWN IS SO, in plain Lean: what comes of numbers that fit fits what is told of it. No program in sight. -/
import Derived.Test.YteiknefajlocoaaKnownP
import Derived.Test.YteiknefajlocoaaRef1P
namespace Go.Proofs.Yteiknefajlocoaa
open Go.RowKit

theorem nrm_nrm (b : Int) : nrm (nrm b) = nrm b := nrm_id (nrm_bd b).1 (nrm_bd b).2
theorem khas_17 {b n : Int} (h : nrm b = 17) : khas b n = true := by unfold khas kfit; rw [h]; rfl
theorem khas_iff {b : Int} {m : Nat} (h : nrm b = m) (hm : m ≤ 16) (n : Int) : khas b n = true ↔ 0 ≤ n ∧ n < 2 ^ m := by
  unfold khas kfit
  rw [h, Int.toNat_natCast]
  simp
  omega
theorem bits_of (b : Int) : nrm b = 17 ∨ ∃ m : Nat, nrm b = m ∧ m ≤ 16 := by
  obtain ⟨h0, h1⟩ := nrm_bd b
  by_cases h : nrm b = 17
  · exact .inl h
  · exact .inr ⟨(nrm b).toNat, by omega, by omega⟩
theorem pow_16 (m : Nat) (h : m ≤ 16) : (2 : Int) ^ m ≤ 65536 := pow_le m 16 h
theorem pow_one (m : Nat) : (1 : Int) ≤ 2 ^ m := by have : (0 : Int) < 2 ^ m := Int.pow_pos (by omega); omega
/-- fits fewer, fits more -/
theorem khas_mono {b c n : Int} (h : nrm b ≤ nrm c) (hb : khas b n = true) : khas c n = true := by
  rcases bits_of c with hc | ⟨k, hc, hk⟩
  · exact khas_17 hc
  · rcases bits_of b with hb' | ⟨m, hb', hm⟩
    · omega
    · rw [khas_iff hb' hm] at hb
      rw [khas_iff hc hk]
      have := pow_le m k (by omega)
      omega
theorem khas_join {b c n m : Int} (h : khas b n = true) (k : khas c m = true) : khas (max (nrm b) (nrm c)) n = true ∧ khas (max (nrm b) (nrm c)) m = true := by
  have e : nrm (max (nrm b) (nrm c)) = max (nrm b) (nrm c) := by
    obtain ⟨h0, h1⟩ := nrm_bd b
    obtain ⟨k0, k1⟩ := nrm_bd c
    exact nrm_id (by omega) (by omega)
  exact ⟨khas_mono (by rw [e]; omega) h, khas_mono (by rw [e]; omega) k⟩
theorem khas_of (n : Int) : khas (kof n) n = true := by
  obtain ⟨h0, h1⟩ := kof_bd n
  by_cases h : kof n ≤ 16
  · have := kof_fits n (kof n).toNat (by omega)
    rw [show (((kof n).toNat : Nat) : Int) = kof n by omega] at this
    rw [this]; simp
  · exact khas_17 (by rw [nrm_id h0 h1]; omega)
theorem u64_small {n : Int} (h0 : 0 ≤ n) (h1 : n < 18446744073709551616) : u64 n = n := by unfold u64; omega
theorem khas_less {b c n m : Int} (n0 : -9223372036854775808 ≤ n) (n1 : n ≤ 9223372036854775807) (hn : khas b n = true) (hm : khas c m = true) (h : nbelow m n = false) : khas (min (nrm b) (nrm c)) n = true := by
  obtain ⟨b0, b1⟩ := nrm_bd b
  obtain ⟨c0, c1⟩ := nrm_bd c
  have e : nrm (min (nrm b) (nrm c)) = min (nrm b) (nrm c) := nrm_id (by omega) (by omega)
  by_cases hbc : nrm b ≤ nrm c
  · exact khas_mono (by rw [e]; omega) hn
  · rcases bits_of c with hc | ⟨k, hc, hk⟩
    · omega
    · rw [khas_iff hc hk] at hm
      have hp := pow_16 k hk
      unfold nbelow at h
      rw [u64_small hm.1 (by omega)] at h
      simp at h
      -- n is at most m, from 0 on; n is a number of 64 bits
      rw [khas_iff (b := min (nrm b) (nrm c)) (m := k) (by rw [e]; omega) hk]
      rcases bits_of b with hb | ⟨j, hb, hj⟩
      · unfold u64 at h; omega
      · rw [khas_iff hb hj] at hn
        have hq := pow_16 j hj
        rw [u64_small hn.1 (by omega)] at h
        omega

theorem wrap64_small {n : Int} (h0 : 0 ≤ n) (h1 : n ≤ 9223372036854775807) : wrap64 n = n := by unfold wrap64; omega
/-- bits.and of a number and a small one -/
theorem and_small (n m : Int) (h0 : 0 ≤ m) (h1 : m < 65536) : 0 ≤ bits .and .i64 n m ∧ bits .and .i64 n m ≤ m := by
  have e : bits .and .i64 n m = IntKind.i64.wrap ((BitVec.ofInt 64 n &&& BitVec.ofInt 64 m).toNat : Int) := rfl
  have hm : (BitVec.ofInt 64 m).toNat = m.toNat := by rw [BitVec.toNat_ofInt]; omega
  have hl : (BitVec.ofInt 64 n &&& BitVec.ofInt 64 m).toNat ≤ m.toNat := by
    rw [BitVec.toNat_and, hm]; exact Nat.and_le_right
  rw [e, i64_is, wrap64_small (by omega) (by omega)]
  omega
theorem and_comm' (n m : Int) : bits .and .i64 n m = bits .and .i64 m n := by
  show IntKind.i64.wrap ((BitVec.ofInt 64 n &&& BitVec.ofInt 64 m).toNat : Int) = IntKind.i64.wrap ((BitVec.ofInt 64 m &&& BitVec.ofInt 64 n).toNat : Int)
  rw [BitVec.and_comm]
theorem nat_pow_cast (k : Nat) : ((2 ^ k : Nat) : Int) = (2 : Int) ^ k := by rw [Int.natCast_pow]; rfl
theorem or_small (n m : Int) (k : Nat) (hk : k ≤ 16) (n0 : 0 ≤ n) (n1 : n < 2 ^ k) (m0 : 0 ≤ m) (m1 : m < 2 ^ k) : 0 ≤ bits .or .i64 n m ∧ bits .or .i64 n m < 2 ^ k := by
  have e : bits .or .i64 n m = IntKind.i64.wrap ((BitVec.ofInt 64 n ||| BitVec.ofInt 64 m).toNat : Int) := rfl
  have hp := pow_16 k hk
  have hc := nat_pow_cast k
  have hn : (BitVec.ofInt 64 n).toNat = n.toNat := by rw [BitVec.toNat_ofInt]; omega
  have hm : (BitVec.ofInt 64 m).toNat = m.toNat := by rw [BitVec.toNat_ofInt]; omega
  have hl : (BitVec.ofInt 64 n ||| BitVec.ofInt 64 m).toNat < 2 ^ k := by
    rw [BitVec.toNat_or, hn, hm]; exact Nat.or_lt_two_pow (by omega) (by omega)
  rw [e, i64_is, wrap64_small (by omega) (by omega)]
  omega
theorem xor_small (n m : Int) (k : Nat) (hk : k ≤ 16) (n0 : 0 ≤ n) (n1 : n < 2 ^ k) (m0 : 0 ≤ m) (m1 : m < 2 ^ k) : 0 ≤ bits .xor .i64 n m ∧ bits .xor .i64 n m < 2 ^ k := by
  have e : bits .xor .i64 n m = IntKind.i64.wrap ((BitVec.ofInt 64 n ^^^ BitVec.ofInt 64 m).toNat : Int) := rfl
  have hp := pow_16 k hk
  have hc := nat_pow_cast k
  have hn : (BitVec.ofInt 64 n).toNat = n.toNat := by rw [BitVec.toNat_ofInt]; omega
  have hm : (BitVec.ofInt 64 m).toNat = m.toNat := by rw [BitVec.toNat_ofInt]; omega
  have hl : (BitVec.ofInt 64 n ^^^ BitVec.ofInt 64 m).toNat < 2 ^ k := by
    rw [BitVec.toNat_xor, hn, hm]; exact Nat.xor_lt_two_pow (by omega) (by omega)
  rw [e, i64_is, wrap64_small (by omega) (by omega)]
  omega

theorem kop_bd (op a b : Int) (a0 : 0 ≤ a) (a1 : a ≤ 17) (b0 : 0 ≤ b) (b1 : b ≤ 17) : 0 ≤ kop op a b ∧ kop op a b ≤ 17 := by
  unfold kop kopN
  split
  · split <;> omega
  repeat' (split <;> try omega)

/-- E4: what comes of two numbers is known as is told -/
theorem khas_op {op b c n m : Int} (hn : khas b n = true) (hm : khas c m = true) : khas (kop op (nrm b) (nrm c)) (nop op n m) = true := by
  obtain ⟨b0, b1⟩ := nrm_bd b
  obtain ⟨c0, c1⟩ := nrm_bd c
  obtain ⟨k0, k1⟩ := kop_bd op (nrm b) (nrm c) b0 b1 c0 c1
  have ek := nrm_id k0 k1
  by_cases h17 : kop op (nrm b) (nrm c) = 17
  · exact khas_17 (by rw [ek, h17])
  -- what is told is at most 16 bits
  obtain ⟨k, hk⟩ : ∃ k : Nat, kop op (nrm b) (nrm c) = k := ⟨(kop op (nrm b) (nrm c)).toNat, by omega⟩
  have hk16 : k ≤ 16 := by omega
  rw [khas_iff (by rw [ek, hk]) hk16]
  have hpk := pow_one k
  by_cases h1 : op = 1
  · subst h1
    rcases bits_of b with hb | ⟨i, hb, hi⟩
    · exfalso; apply h17; rw [hb]; simp [kop, kopN]; split <;> omega
    rcases bits_of c with hc | ⟨j, hc, hj⟩
    · exfalso; apply h17; rw [hc]; simp [kop, kopN]; split <;> omega
    rw [khas_iff hb hi] at hn
    rw [khas_iff hc hj] at hm
    have p1 := pow_16 i hi
    have p2 := pow_16 j hj
    have e : nop 1 n m = wrap64 (n + m) := rfl
    rw [e, wrap64_small (by omega) (by omega)]
    have hkop : kop 1 (nrm b) (nrm c) = min (max (nrm b) (nrm c) + (if 0 < min (nrm b) (nrm c) then 1 else 0)) 17 := rfl
    rw [hb, hc] at hkop hk
    by_cases hz : 0 < min (i : Int) (j : Int)
    · rw [if_pos hz] at hkop
      have q1 := pow_le i (max i j) (by omega)
      have q2 := pow_le j (max i j) (by omega)
      have q3 : (2 : Int) ^ k = 2 ^ (max i j) * 2 := by rw [← Int.pow_succ]; congr 1; omega
      omega
    · rw [if_neg hz] at hkop
      have q1 := pow_le i k (by omega)
      have q2 := pow_le j k (by omega)
      rcases (show i = 0 ∨ j = 0 by omega) with h | h
      · subst h; simp at hn; omega
      · subst h; simp at hm; omega
  by_cases h3 : op = 3
  · subst h3
    have hkop : kop 3 (nrm b) (nrm c) = min (if nrm b = 0 ∨ nrm c = 0 then 0 else nrm b + nrm c) 17 := rfl
    have e : nop 3 n m = wrap64 (n * m) := rfl
    rw [e]
    by_cases hz : nrm b = 0 ∨ nrm c = 0
    · rw [if_pos hz] at hkop
      have hnm : n * m = 0 := by
        rcases hz with h | h
        · rw [khas_iff (m := 0) h (by omega)] at hn; simp at hn
          obtain rfl : n = 0 := by omega
          simp
        · rw [khas_iff (m := 0) h (by omega)] at hm; simp at hm
          obtain rfl : m = 0 := by omega
          simp
      rw [hnm, wrap64_small (by omega) (by omega)]
      omega
    · rw [if_neg hz] at hkop
      rcases bits_of b with hb | ⟨i, hb, hi⟩
      · omega
      rcases bits_of c with hc | ⟨j, hc, hj⟩
      · omega
      rw [khas_iff hb hi] at hn
      rw [khas_iff hc hj] at hm
      have q3 : (2 : Int) ^ k = 2 ^ i * 2 ^ j := by rw [← Int.pow_add]; congr 1; omega
      have l1 : n * m < 2 ^ i * 2 ^ j := by
        have h1 : n * m ≤ n * 2 ^ j := Int.mul_le_mul_of_nonneg_left (by omega) hn.1
        have h2 : n * 2 ^ j < 2 ^ i * 2 ^ j := Int.mul_lt_mul_of_pos_right hn.2 (Int.pow_pos (by omega))
        omega
      have l0 : 0 ≤ n * m := Int.mul_nonneg hn.1 hm.1
      have p := pow_16 k hk16
      rw [wrap64_small l0 (by omega)]
      omega
  by_cases h4 : op = 4
  · subst h4
    have hkop : kop 4 (nrm b) (nrm c) = min (min (nrm b) (nrm c)) 17 := rfl
    have e : nop 4 n m = bits .and .i64 n m := rfl
    rw [e]
    by_cases hbc : nrm c ≤ nrm b
    · have hc : nrm c = k := by omega
      rw [khas_iff hc hk16] at hm
      have := and_small n m hm.1 (by have := pow_16 k hk16; omega)
      omega
    · have hb : nrm b = k := by omega
      rw [khas_iff hb hk16] at hn
      have := and_small m n hn.1 (by have := pow_16 k hk16; omega)
      rw [and_comm']
      omega
  by_cases h5 : op = 5 ∨ op = 6
  · have hkop : kop op (nrm b) (nrm c) = min (max (nrm b) (nrm c)) 17 := by rcases h5 with rfl | rfl <;> rfl
    rcases bits_of b with hb | ⟨i, hb, hi⟩
    · omega
    rcases bits_of c with hc | ⟨j, hc, hj⟩
    · omega
    rw [khas_iff hb hi] at hn
    rw [khas_iff hc hj] at hm
    have q1 := pow_le i k (by omega)
    have q2 := pow_le j k (by omega)
    rcases h5 with rfl | rfl
    · exact or_small n m k hk16 hn.1 (by omega) hm.1 (by omega)
    · exact xor_small n m k hk16 hn.1 (by omega) hm.1 (by omega)
  by_cases h8 : op = 8 ∨ op = 9 ∨ op = 10
  · have hkop : kop op (nrm b) (nrm c) = min (nrm b) 17 := by rcases h8 with rfl | rfl | rfl <;> rfl
    have hb : nrm b = k := by omega
    rw [khas_iff hb hk16] at hn
    have p := pow_16 k hk16
    have hu : u64 n = n := u64_small hn.1 (by omega)
    have hum := u64_nonneg m
    rcases h8 with rfl | rfl | rfl
    · have e : nop 8 n m = wrap64 (u64 n / 2 ^ sh m) := rfl
      rw [e, hu]
      have d0 : 0 ≤ n / 2 ^ sh m := Int.ediv_nonneg hn.1 (Int.le_of_lt (pow_pos' _))
      have d1 : n / 2 ^ sh m ≤ n := Int.ediv_le_self _ hn.1
      rw [wrap64_small d0 (by omega)]
      omega
    · have e : nop 9 n m = if u64 m = 0 then 0 else wrap64 (u64 n / u64 m) := rfl
      rw [e, hu]
      split
      · omega
      · have d0 : 0 ≤ n / u64 m := Int.ediv_nonneg hn.1 hum
        have d1 : n / u64 m ≤ n := Int.ediv_le_self _ hn.1
        rw [wrap64_small d0 (by omega)]
        omega
    · have e : nop 10 n m = if u64 m = 0 then n else wrap64 (u64 n % u64 m) := rfl
      rw [e, hu]
      split
      · omega
      · rename_i hz
        have d0 : 0 ≤ n % u64 m := Int.emod_nonneg _ hz
        have d1 : n % u64 m ≤ n := by
          have := Int.emod_add_mul_ediv n (u64 m)
          have h2 : 0 ≤ u64 m * (n / u64 m) := Int.mul_nonneg hum (Int.ediv_nonneg hn.1 hum)
          omega
        rw [wrap64_small d0 (by omega)]
        omega
  · exfalso
    apply h17
    unfold kop
    rw [kopN_other _ _ h1 h3 h4 (fun h => h5 (.inl h)) (fun h => h5 (.inr h)) (fun h => h8 (.inl h)) (fun h => h8 (.inr (.inl h))) (fun h => h8 (.inr (.inr h)))]
    rfl
end Go.Proofs.Yteiknefajlocoaa
