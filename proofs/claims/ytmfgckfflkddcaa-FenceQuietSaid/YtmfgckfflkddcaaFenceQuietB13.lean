/- Laid together from: KnownL, CheckL, CheckQ, CheckS, Typed, HardP, Sim. -/
import Derived.Test.YtmfgckfflkddcaaFenceQuietB3
import Derived.Test.YtmfgckfflkddcaaFenceQuietB11
import Derived.Test.YtmfgckfflkddcaaFenceQuietB6
import Derived.Test.YtmfgckfflkddcaaFenceQuietB5

namespace Go.Proofs.Ytmfgckfflkddcaa
open Go.RowKit
theorem khas_17 {b n : Int} (h : nrm b = 17) : khas b n = true := by unfold khas kfit; rw [h]; rfl
theorem khas_iff {b : Int} {m : Nat} (h : nrm b = m) (hm : m ≤ 16) (n : Int) : khas b n = true ↔ 0 ≤ n ∧ n < 2 ^ m := by
  unfold khas kfit
  rw [h, Int.toNat_natCast]
  simp
  omega
theorem bits_of (b : Int) : nrm b = 17 ∨ ∃ m : Nat, nrm b = m ∧ m ≤ 16 := by
  obtain ⟨h0, h1⟩ := nrm_bd b
  by_cases h : nrm b = 17
  · exact .inl h
  · exact .inr ⟨(nrm b).toNat, by omega, by omega⟩
theorem pow_16 (m : Nat) (h : m ≤ 16) : (2 : Int) ^ m ≤ 65536 := pow_le m 16 h
theorem pow_one (m : Nat) : (1 : Int) ≤ 2 ^ m := by have : (0 : Int) < 2 ^ m := Int.pow_pos (by omega); omega
theorem khas_mono {b c n : Int} (h : nrm b ≤ nrm c) (hb : khas b n = true) : khas c n = true := by
  rcases bits_of c with hc | ⟨k, hc, hk⟩
  · exact khas_17 hc
  · rcases bits_of b with hb' | ⟨m, hb', hm⟩
    · omega
    · rw [khas_iff hb' hm] at hb
      rw [khas_iff hc hk]
      have := pow_le m k (by omega)
      omega
theorem khas_of (n : Int) : khas (kof n) n = true := by
  obtain ⟨h0, h1⟩ := kof_bd n
  by_cases h : kof n ≤ 16
  · have := kof_fits n (kof n).toNat (by omega)
    rw [show (((kof n).toNat : Nat) : Int) = kof n by omega] at this
    rw [this]; simp
  · exact khas_17 (by rw [nrm_id h0 h1]; omega)
theorem u64_small {n : Int} (h0 : 0 ≤ n) (h1 : n < 18446744073709551616) : u64 n = n := by unfold u64; omega
theorem khas_less {b c n m : Int} (n0 : -9223372036854775808 ≤ n) (n1 : n ≤ 9223372036854775807) (hn : khas b n = true) (hm : khas c m = true) (h : nbelow m n = false) : khas (min (nrm b) (nrm c)) n = true := by
  obtain ⟨b0, b1⟩ := nrm_bd b
  obtain ⟨c0, c1⟩ := nrm_bd c
  have e : nrm (min (nrm b) (nrm c)) = min (nrm b) (nrm c) := nrm_id (by omega) (by omega)
  by_cases hbc : nrm b ≤ nrm c
  · exact khas_mono (by rw [e]; omega) hn
  · rcases bits_of c with hc | ⟨k, hc, hk⟩
    · omega
    · rw [khas_iff hc hk] at hm
      have hp := pow_16 k hk
      unfold nbelow at h
      rw [u64_small hm.1 (by omega)] at h
      simp at h
      rw [khas_iff (b := min (nrm b) (nrm c)) (m := k) (by rw [e]; omega) hk]
      rcases bits_of b with hb | ⟨j, hb, hj⟩
      · unfold u64 at h; omega
      · rw [khas_iff hb hj] at hn
        have hq := pow_16 j hj
        rw [u64_small hn.1 (by omega)] at h
        omega
theorem wrap64_small {n : Int} (h0 : 0 ≤ n) (h1 : n ≤ 9223372036854775807) : wrap64 n = n := by unfold wrap64; omega
theorem and_small (n m : Int) (h0 : 0 ≤ m) (h1 : m < 65536) : 0 ≤ bits .and .i64 n m ∧ bits .and .i64 n m ≤ m := by
  have e : bits .and .i64 n m = IntKind.i64.wrap ((BitVec.ofInt 64 n &&& BitVec.ofInt 64 m).toNat : Int) := rfl
  have hm : (BitVec.ofInt 64 m).toNat = m.toNat := by rw [BitVec.toNat_ofInt]; omega
  have hl : (BitVec.ofInt 64 n &&& BitVec.ofInt 64 m).toNat ≤ m.toNat := by
    rw [BitVec.toNat_and, hm]; exact Nat.and_le_right
  rw [e, i64_is, wrap64_small (by omega) (by omega)]
  omega
theorem and_comm' (n m : Int) : bits .and .i64 n m = bits .and .i64 m n := by
  show IntKind.i64.wrap ((BitVec.ofInt 64 n &&& BitVec.ofInt 64 m).toNat : Int) = IntKind.i64.wrap ((BitVec.ofInt 64 m &&& BitVec.ofInt 64 n).toNat : Int)
  rw [BitVec.and_comm]
theorem nat_pow_cast (k : Nat) : ((2 ^ k : Nat) : Int) = (2 : Int) ^ k := by rw [Int.natCast_pow]; rfl
theorem or_small (n m : Int) (k : Nat) (hk : k ≤ 16) (n0 : 0 ≤ n) (n1 : n < 2 ^ k) (m0 : 0 ≤ m) (m1 : m < 2 ^ k) : 0 ≤ bits .or .i64 n m ∧ bits .or .i64 n m < 2 ^ k := by
  have e : bits .or .i64 n m = IntKind.i64.wrap ((BitVec.ofInt 64 n ||| BitVec.ofInt 64 m).toNat : Int) := rfl
  have hp := pow_16 k hk
  have hc := nat_pow_cast k
  have hn : (BitVec.ofInt 64 n).toNat = n.toNat := by rw [BitVec.toNat_ofInt]; omega
  have hm : (BitVec.ofInt 64 m).toNat = m.toNat := by rw [BitVec.toNat_ofInt]; omega
  have hl : (BitVec.ofInt 64 n ||| BitVec.ofInt 64 m).toNat < 2 ^ k := by
    rw [BitVec.toNat_or, hn, hm]; exact Nat.or_lt_two_pow (by omega) (by omega)
  rw [e, i64_is, wrap64_small (by omega) (by omega)]
  omega
theorem xor_small (n m : Int) (k : Nat) (hk : k ≤ 16) (n0 : 0 ≤ n) (n1 : n < 2 ^ k) (m0 : 0 ≤ m) (m1 : m < 2 ^ k) : 0 ≤ bits .xor .i64 n m ∧ bits .xor .i64 n m < 2 ^ k := by
  have e : bits .xor .i64 n m = IntKind.i64.wrap ((BitVec.ofInt 64 n ^^^ BitVec.ofInt 64 m).toNat : Int) := rfl
  have hp := pow_16 k hk
  have hc := nat_pow_cast k
  have hn : (BitVec.ofInt 64 n).toNat = n.toNat := by rw [BitVec.toNat_ofInt]; omega
  have hm : (BitVec.ofInt 64 m).toNat = m.toNat := by rw [BitVec.toNat_ofInt]; omega
  have hl : (BitVec.ofInt 64 n ^^^ BitVec.ofInt 64 m).toNat < 2 ^ k := by
    rw [BitVec.toNat_xor, hn, hm]; exact Nat.xor_lt_two_pow (by omega) (by omega)
  rw [e, i64_is, wrap64_small (by omega) (by omega)]
  omega
theorem kop_bd (op a b : Int) (a0 : 0 ≤ a) (a1 : a ≤ 17) (b0 : 0 ≤ b) (b1 : b ≤ 17) : 0 ≤ kop op a b ∧ kop op a b ≤ 17 := by
  unfold kop kopN
  split
  · split <;> omega
  repeat' (split <;> try omega)
theorem khas_op {op b c n m : Int} (hn : khas b n = true) (hm : khas c m = true) : khas (kop op (nrm b) (nrm c)) (nop op n m) = true := by
  obtain ⟨b0, b1⟩ := nrm_bd b
  obtain ⟨c0, c1⟩ := nrm_bd c
  obtain ⟨k0, k1⟩ := kop_bd op (nrm b) (nrm c) b0 b1 c0 c1
  have ek := nrm_id k0 k1
  by_cases h17 : kop op (nrm b) (nrm c) = 17
  · exact khas_17 (by rw [ek, h17])
  obtain ⟨k, hk⟩ : ∃ k : Nat, kop op (nrm b) (nrm c) = k := ⟨(kop op (nrm b) (nrm c)).toNat, by omega⟩
  have hk16 : k ≤ 16 := by omega
  rw [khas_iff (by rw [ek, hk]) hk16]
  have hpk := pow_one k
  by_cases h1 : op = 1
  · subst h1
    rcases bits_of b with hb | ⟨i, hb, hi⟩
    · exfalso; apply h17; rw [hb]; simp [kop, kopN]; split <;> omega
    rcases bits_of c with hc | ⟨j, hc, hj⟩
    · exfalso; apply h17; rw [hc]; simp [kop, kopN]; split <;> omega
    rw [khas_iff hb hi] at hn
    rw [khas_iff hc hj] at hm
    have p1 := pow_16 i hi
    have p2 := pow_16 j hj
    have e : nop 1 n m = wrap64 (n + m) := rfl
    rw [e, wrap64_small (by omega) (by omega)]
    have hkop : kop 1 (nrm b) (nrm c) = min (max (nrm b) (nrm c) + (if 0 < min (nrm b) (nrm c) then 1 else 0)) 17 := rfl
    rw [hb, hc] at hkop hk
    by_cases hz : 0 < min (i : Int) (j : Int)
    · rw [if_pos hz] at hkop
      have q1 := pow_le i (max i j) (by omega)
      have q2 := pow_le j (max i j) (by omega)
      have q3 : (2 : Int) ^ k = 2 ^ (max i j) * 2 := by rw [← Int.pow_succ]; congr 1; omega
      omega
    · rw [if_neg hz] at hkop
      have q1 := pow_le i k (by omega)
      have q2 := pow_le j k (by omega)
      rcases (show i = 0 ∨ j = 0 by omega) with h | h
      · subst h; simp at hn; omega
      · subst h; simp at hm; omega
  by_cases h3 : op = 3
  · subst h3
    have hkop : kop 3 (nrm b) (nrm c) = min (if nrm b = 0 ∨ nrm c = 0 then 0 else nrm b + nrm c) 17 := rfl
    have e : nop 3 n m = wrap64 (n * m) := rfl
    rw [e]
    by_cases hz : nrm b = 0 ∨ nrm c = 0
    · rw [if_pos hz] at hkop
      have hnm : n * m = 0 := by
        rcases hz with h | h
        · rw [khas_iff (m := 0) h (by omega)] at hn; simp at hn
          obtain rfl : n = 0 := by omega
          simp
        · rw [khas_iff (m := 0) h (by omega)] at hm; simp at hm
          obtain rfl : m = 0 := by omega
          simp
      rw [hnm, wrap64_small (by omega) (by omega)]
      omega
    · rw [if_neg hz] at hkop
      rcases bits_of b with hb | ⟨i, hb, hi⟩
      · omega
      rcases bits_of c with hc | ⟨j, hc, hj⟩
      · omega
      rw [khas_iff hb hi] at hn
      rw [khas_iff hc hj] at hm
      have q3 : (2 : Int) ^ k = 2 ^ i * 2 ^ j := by rw [← Int.pow_add]; congr 1; omega
      have l1 : n * m < 2 ^ i * 2 ^ j := by
        have h1 : n * m ≤ n * 2 ^ j := Int.mul_le_mul_of_nonneg_left (by omega) hn.1
        have h2 : n * 2 ^ j < 2 ^ i * 2 ^ j := Int.mul_lt_mul_of_pos_right hn.2 (Int.pow_pos (by omega))
        omega
      have l0 : 0 ≤ n * m := Int.mul_nonneg hn.1 hm.1
      have p := pow_16 k hk16
      rw [wrap64_small l0 (by omega)]
      omega
  by_cases h4 : op = 4
  · subst h4
    have hkop : kop 4 (nrm b) (nrm c) = min (min (nrm b) (nrm c)) 17 := rfl
    have e : nop 4 n m = bits .and .i64 n m := rfl
    rw [e]
    by_cases hbc : nrm c ≤ nrm b
    · have hc : nrm c = k := by omega
      rw [khas_iff hc hk16] at hm
      have := and_small n m hm.1 (by have := pow_16 k hk16; omega)
      omega
    · have hb : nrm b = k := by omega
      rw [khas_iff hb hk16] at hn
      have := and_small m n hn.1 (by have := pow_16 k hk16; omega)
      rw [and_comm']
      omega
  by_cases h5 : op = 5 ∨ op = 6
  · have hkop : kop op (nrm b) (nrm c) = min (max (nrm b) (nrm c)) 17 := by rcases h5 with rfl | rfl <;> rfl
    rcases bits_of b with hb | ⟨i, hb, hi⟩
    · omega
    rcases bits_of c with hc | ⟨j, hc, hj⟩
    · omega
    rw [khas_iff hb hi] at hn
    rw [khas_iff hc hj] at hm
    have q1 := pow_le i k (by omega)
    have q2 := pow_le j k (by omega)
    rcases h5 with rfl | rfl
    · exact or_small n m k hk16 hn.1 (by omega) hm.1 (by omega)
    · exact xor_small n m k hk16 hn.1 (by omega) hm.1 (by omega)
  by_cases h8 : op = 8 ∨ op = 9 ∨ op = 10
  · have hkop : kop op (nrm b) (nrm c) = min (nrm b) 17 := by rcases h8 with rfl | rfl | rfl <;> rfl
    have hb : nrm b = k := by omega
    rw [khas_iff hb hk16] at hn
    have p := pow_16 k hk16
    have hu : u64 n = n := u64_small hn.1 (by omega)
    have hum := u64_nonneg m
    rcases h8 with rfl | rfl | rfl
    · have e : nop 8 n m = wrap64 (u64 n / 2 ^ sh m) := rfl
      rw [e, hu]
      have d0 : 0 ≤ n / 2 ^ sh m := Int.ediv_nonneg hn.1 (Int.le_of_lt (pow_pos' _))
      have d1 : n / 2 ^ sh m ≤ n := Int.ediv_le_self _ hn.1
      rw [wrap64_small d0 (by omega)]
      omega
    · have e : nop 9 n m = if u64 m = 0 then 0 else wrap64 (u64 n / u64 m) := rfl
      rw [e, hu]
      split
      · omega
      · have d0 : 0 ≤ n / u64 m := Int.ediv_nonneg hn.1 hum
        have d1 : n / u64 m ≤ n := Int.ediv_le_self _ hn.1
        rw [wrap64_small d0 (by omega)]
        omega
    · have e : nop 10 n m = if u64 m = 0 then n else wrap64 (u64 n % u64 m) := rfl
      rw [e, hu]
      split
      · omega
      · rename_i hz
        have d0 : 0 ≤ n % u64 m := Int.emod_nonneg _ hz
        have d1 : n % u64 m ≤ n := by
          have := Int.emod_add_mul_ediv n (u64 m)
          have h2 : 0 ≤ u64 m * (n / u64 m) := Int.mul_nonneg hum (Int.ediv_nonneg hn.1 hum)
          omega
        rw [wrap64_small d0 (by omega)]
        omega
  · exfalso
    apply h17
    unfold kop
    rw [kopN_other _ _ h1 h3 h4 (fun h => h5 (.inl h)) (fun h => h5 (.inr h)) (fun h => h8 (.inl h)) (fun h => h8 (.inr (.inl h))) (fun h => h8 (.inr (.inr h)))]
    rfl
end Go.Proofs.Ytmfgckfflkddcaa

namespace Go.Proofs.Ytmfgckfflkddcaa
open Go.RowKit
set_option linter.unusedSimpArgs false
set_option linter.unusedVariables false
def secAt : List LReg → Nat → Bool
  | [], _ => false
  | r :: l, n => if n < wordsOf r then r.secret else secAt l (n - wordsOf r)
theorem secAt_base : ∀ (l : List LReg) (r x : Nat), r < l.length → x < wordsOf (l.getD r default) → secAt l (((l.take r).map wordsOf).sum + x) = (l.getD r default).secret
  | [], r, x, h, _ => by simp at h
  | a :: l, 0, x, _, h => by
    simp only [List.getD_cons_zero] at h
    simp [secAt, h]
  | a :: l, r + 1, x, h, hx => by
    simp only [List.getD_cons_succ] at hx
    have := secAt_base l r x (by simpa using h) hx
    simp only [List.take_succ_cons, List.map_cons, List.sum_cons, List.getD_cons_succ, secAt]
    rw [if_neg (by omega), show wordsOf a + ((l.take r).map wordsOf).sum + x - wordsOf a = ((l.take r).map wordsOf).sum + x by omega, this]
def secW (p : LProg) (n : Nat) : Bool := secAt p.regs n
def Pub (p : LProg) (a b : List Int) : Prop := ∀ n, secW p n = false → a.getD n 0 = b.getD n 0
def All64 (l : List Int) : Prop := ∀ n : Nat, R64 (l.getD n 0)
theorem r64_zero : R64 0 := ⟨by omega, by omega⟩
theorem r64_wrap (x : Int) : R64 (wrap64 x) := by unfold R64 wrap64; omega
theorem bits_wrapped (a b : Int) : R64 (bits .and .i64 a b) ∧ R64 (bits .or .i64 a b) ∧ R64 (bits .xor .i64 a b) := by
  have e : ∀ x : Int, R64 (IntKind.i64.wrap x) := fun x => by rw [i64_is]; exact r64_wrap x
  exact ⟨e _, e _, e _⟩
theorem r64_nop {op a b : Int} (ha : R64 a) : R64 (nop op a b) := by
  have hb := bits_wrapped a b
  unfold nop
  repeat' split
  all_goals first | exact r64_wrap _ | exact hb.1 | exact hb.2.1 | exact hb.2.2 | exact ha | exact r64_zero
theorem All64.set {l : List Int} (h : All64 l) (k : Nat) {x : Int} (hx : R64 x) : All64 (l.set k x) := fun n => by
  rw [List.getD_eq_getElem?_getD, List.getElem?_set]
  by_cases e : k = n
  · subst e
    by_cases h2 : k < l.length
    · simpa [h2] using hx
    · simpa [h2] using r64_zero
  · rw [if_neg e, ← List.getD_eq_getElem?_getD]; exact h n
theorem set_get (l : List Int) (k : Nat) (x : Int) (n : Nat) : (l.set k x).getD n 0 = if n = k ∧ n < l.length then x else l.getD n 0 := by
  rw [List.getD_eq_getElem?_getD, List.getElem?_set]
  by_cases e : k = n
  · subst e
    by_cases h2 : k < l.length <;> simp [h2]
  · rw [if_neg e, if_neg (by omega), ← List.getD_eq_getElem?_getD]
def Sat (s : KSt) (r : List Int) : Prop := ∀ j, j < 8 → khas (s.getD j default).bits (r.getD j 0) = true
theorem Sat.mono {s t : KSt} {r : List Int} (hs : Sok s) (ht : Sok t) (h : Sat s r) (k : Sle s t) : Sat t r := fun j hj => by
  refine khas_mono ?_ (h j hj)
  rw [nrm_ok (hs.ok j), nrm_ok (ht.ok j)]
  exact (k j).1
theorem Sat.set {s : KSt} {r : List Int} (h : Sat s r) (hl : s.length = 8) (hr : r.length = 10) (a : Int) {k : LKn} {v : Int} (hv : khas k.bits v = true) : Sat (kset s a k) (rset r a v) := fun j hj => by
  rw [kset_get, hl]
  unfold rset
  rw [set_get, hr]
  by_cases e : j = a.toNat
  · rw [if_pos ⟨e, hj⟩, if_pos ⟨e, by omega⟩]; exact hv
  · rw [if_neg (by omega), if_neg (by omega)]; exact h j hj
theorem Sat.know {s : KSt} {r : List Int} (h : Sat s r) (hl : s.length = 8) (a : Int) {k : LKn} (hv : khas k.bits (rg r a) = true) : Sat (kset s a k) r := fun j hj => by
  rw [kset_get, hl]
  by_cases e : j = a.toNat
  · rw [if_pos ⟨e, hj⟩, e]; exact hv
  · rw [if_neg (by omega)]; exact h j hj
theorem okIn_iff {b n : Int} : okIn b n = true ↔ 0 ≤ n ∧ n < b := by simp [okIn]
theorem Sat.at_ {s : KSt} {r : List Int} (h : Sat s r) {a : Int} (ha : okIn 8 a = true) : khas (kg s a).bits (rg r a) = true := by
  rw [okIn_iff] at ha
  exact h a.toNat (by omega)
theorem khas_zero (b : Int) : khas b 0 = true := by
  unfold khas kfit
  simp [Int.pow_pos]
theorem khas_sum {k : LKn} {x n : Int} (h : khas k.bits x = true) : khas (ksum k n).bits (wrap64 (x + n)) = true := by
  unfold ksum
  split
  · exact khas_17 rfl
  · exact khas_op (op := 1) h (khas_of n)
theorem khas_less' {a b : LKn} {n m : Int} (h : R64 n) (hn : khas a.bits n = true) (hm : khas b.bits m = true) (hb : nbelow m n = false) : khas (kless a b).bits n = true := khas_less h.1 h.2 hn hm hb
theorem idx_inside {p : LProg} {s : KSt} {r : List Int} {i : LIns} (h : Sat s r) (hb : okIn 8 i.b = true) (hs : Sok s) (hop : i.op = 3 ∨ i.op = 4) (hn : 0 ≤ i.n) (hk : (ksum (kg s i.b) i.n).bits ≤ (regOf p i).log) (hl : (regOf p i).log ≤ 6) :
    insideB p i (idxOf r i) = true := by
  have e : idxOf r i = wrap64 (rg r i.b + i.n) := by unfold idxOf; rw [if_neg (by omega)]
  have h1 := khas_sum (n := i.n) (h.at_ hb)
  have ok := ksum_ok (kg s i.b) i.n
  rw [e]
  obtain ⟨m, hm⟩ : ∃ m : Nat, (ksum (kg s i.b) i.n).bits = m := ⟨(ksum (kg s i.b) i.n).bits.toNat, by have := ok.1; omega⟩
  rw [khas_iff (m := m) (by rw [nrm_ok ok, hm]) (by omega)] at h1
  have h2 := pow_le m (regOf p i).log.toNat (by omega)
  have h3 : ((wordsOf (regOf p i) : Nat) : Int) = 2 ^ (regOf p i).log.toNat := by unfold wordsOf; rw [Int.natCast_pow]; rfl
  simp only [insideB, Bool.and_eq_true, decide_eq_true_eq]
  rw [h3]
  omega
structure Good (p : LProg) (s : KSt) (a : Plc) : Prop where
  regs : a.regs.length = 10
  r64 : All64 a.regs
  sat : Sat s a.regs
  words : a.words.length = total p
  w64 : All64 a.words
  past : a.past.length = total p
  p64 : ∀ n, All64 (a.past.getD n [])
theorem Good.mono {p : LProg} {s t : KSt} {a : Plc} (hs : Sok s) (ht : Sok t) (h : Good p s a) (k : Sle s t) : Good p t a := ⟨h.1, h.2, h.3.mono hs ht k, h.4, h.5, h.6, h.7⟩
theorem Good.goTo {p : LProg} {s : KSt} {a : Plc} (h : Good p s a) (k : Nat) : Good p s { a with at_ := k } := ⟨h.1, h.2, h.3, h.4, h.5, h.6, h.7⟩
theorem plainR_cases (r : List Int) (i : LIns) (P : List Int → Prop) (h1 : i.op = 1 → P (rset r i.a i.n)) (h2 : i.op = 2 → P (rset r i.a (rg r i.b))) (h10 : i.op = 10 → P (rset r i.a (wrap64 (rg r i.b + i.n))))
    (h11 : i.op = 11 → (rg r i.a < 0 ∨ i.n ≤ rg r i.a → P (rset r i.a 0)) ∧ (0 ≤ rg r i.a ∧ rg r i.a < i.n → P r)) (h12 : i.op = 12 → P r)
    (ho : i.op ≠ 1 → i.op ≠ 2 → i.op ≠ 10 → i.op ≠ 11 → i.op ≠ 12 → P (rset r i.a (nop (i.op - 20) (rg r i.b) (rg r i.c)))) : P (plainR r i) := by
  unfold plainR
  by_cases e1 : i.op = 1
  · rw [if_pos e1]; exact h1 e1
  rw [if_neg e1]
  by_cases e2 : i.op = 2
  · rw [if_pos e2]; exact h2 e2
  rw [if_neg e2]
  by_cases e10 : i.op = 10
  · rw [if_pos e10]; exact h10 e10
  rw [if_neg e10]
  by_cases e11 : i.op = 11
  · rw [if_pos e11]
    split
    · rename_i h; exact (h11 e11).1 h
    · rename_i h; exact (h11 e11).2 (by omega)
  rw [if_neg e11]
  by_cases e12 : i.op = 12
  · rw [if_pos e12]; exact h12 e12
  rw [if_neg e12]
  exact ho e1 e2 e10 e11 e12
theorem rset_len (r : List Int) (a v : Int) : (rset r a v).length = r.length := by simp [rset]
theorem All64.rset {r : List Int} (h : All64 r) (a : Int) {v : Int} (hv : R64 v) : All64 (rset r a v) := h.set _ hv
theorem all64_plain {r : List Int} {i : LIns} (h : All64 r) (hn : R64 i.n) : All64 (plainR r i) :=
  plainR_cases r i All64 (fun _ => h.rset _ hn) (fun _ => h.rset _ (h _)) (fun _ => h.rset _ (r64_wrap _)) (fun _ => ⟨fun _ => h.rset _ r64_zero, fun _ => h⟩) (fun _ => h) (fun _ _ _ _ _ => h.rset _ (r64_nop (h _)))
theorem plain_len (r : List Int) (i : LIns) : (plainR r i).length = r.length :=
  plainR_cases r i (fun r' => r'.length = r.length) (fun _ => rset_len _ _ _) (fun _ => rset_len _ _ _) (fun _ => rset_len _ _ _) (fun _ => ⟨fun _ => rset_len _ _ _, fun _ => rfl⟩) (fun _ => rfl) (fun _ _ _ _ _ => rset_len _ _ _)
theorem ins_regs {p : LProg} {R : Int} {i : LIns} (h : insOk p R i = true) :
    (i.op = 1 → okIn R i.a = true) ∧ (i.op = 2 → okIn R i.a = true ∧ okIn R i.b = true) ∧ (i.op = 10 → okIn R i.a = true ∧ okIn R i.b = true) ∧ (i.op = 3 ∨ i.op = 4 → okIn R i.a = true ∧ okIn R i.b = true) ∧
      (i.op = 5 ∨ i.op = 6 → okIn R i.a = true) ∧ (i.op = 8 → okIn R i.a = true ∧ okIn R i.b = true ∧ 1 ≤ i.c ∧ i.c ≤ 4) ∧ (i.op = 9 → okIn R i.a = true) ∧ (i.op = 11 → okIn R i.a = true ∧ 1 ≤ i.n ∧ i.n ≤ 64) ∧
      (i.op ≠ 1 → i.op ≠ 2 → i.op ≠ 10 → i.op ≠ 3 → i.op ≠ 4 → i.op ≠ 5 → i.op ≠ 6 → i.op ≠ 7 → i.op ≠ 8 → i.op ≠ 9 → i.op ≠ 11 → i.op ≠ 12 → okIn R i.a = true ∧ okIn R i.b = true ∧ okIn R i.c = true ∧ 21 ≤ i.op ∧ i.op ≤ 30) ∧
      (i.op = 7 ∨ i.op = 8 → 0 ≤ i.n ∧ i.n.toNat < p.code.length) ∧ (1 ≤ i.op ∧ i.op ≤ 12 ∨ 21 ≤ i.op ∧ i.op ≤ 30) := by
  simp only [insOk] at h
  by_cases e1 : i.op = 1
  · simp [e1, okIn] at h ⊢; omega
  by_cases e2 : i.op = 2
  · simp [e2, okIn] at h ⊢; omega
  by_cases e10 : i.op = 10
  · simp [e10, okIn] at h ⊢; omega
  by_cases e3 : i.op = 3 ∨ i.op = 4
  · rcases e3 with e3 | e3 <;> simp [e3, okIn] at h ⊢ <;> omega
  by_cases e5 : i.op = 5 ∨ i.op = 6
  · rcases e5 with e5 | e5 <;> simp [e5, okIn] at h ⊢ <;> omega
  by_cases e7 : i.op = 7
  · simp [e7, okIn] at h ⊢; omega
  by_cases e8 : i.op = 8
  · simp [e8, okIn] at h ⊢; omega
  by_cases e9 : i.op = 9
  · simp [e9, okIn] at h ⊢; omega
  by_cases e11 : i.op = 11
  · simp [e11, okIn] at h ⊢; omega
  by_cases e12 : i.op = 12
  · simp [e12, okIn] at h ⊢
  rw [if_neg e1, if_neg e2, if_neg e10, if_neg e3, if_neg e5, if_neg e7, if_neg e8, if_neg e9, if_neg e11, if_neg e12] at h
  simp [okIn] at h
  simp [okIn]
  omega
theorem sat_plain {p : LProg} {s : KSt} {r : List Int} {i : LIns} (hok : insOk p 8 i = true) (hs : Sok s) (hl : r.length = 10) (h64 : All64 r) (h : Sat s r) (hw : isWord i = false) (h7 : i.op ≠ 7) (h8 : i.op ≠ 8) (h9 : i.op ≠ 9) : Sat (oneK p s i) (plainR r i) := by
  obtain ⟨g1, g2, g10, g3, g5, g8, g9, g11, go, g7, gop⟩ := ins_regs hok
  have hw3 : i.op ≠ 3 ∧ i.op ≠ 4 ∧ i.op ≠ 5 ∧ i.op ≠ 6 := by
    simp [isWord, isPut, isTake] at hw; omega
  unfold oneK
  refine plainR_cases r i (fun r' => Sat _ r') (fun e => ?_) (fun e => ?_) (fun e => ?_) (fun e => ?_) (fun e => ?_) (fun n1 n2 n10 n11 n12 => ?_)
  · rw [if_pos e]; exact h.set hs.len hl _ (khas_of _)
  · rw [if_neg (by omega), if_pos e]; exact h.set hs.len hl _ (h.at_ (g2 e).2)
  · rw [if_neg (by omega), if_neg (by omega), if_pos e]; exact h.set hs.len hl _ (khas_sum (h.at_ (g10 e).2))
  · rw [if_neg (by omega), if_neg (by omega), if_neg (by omega), if_neg (by omega), if_pos e]
    refine ⟨fun _ => h.set hs.len hl _ (khas_zero _), fun hin => h.know hs.len _ ?_⟩
    refine khas_less' (h64 _) (h.at_ (g11 e).1) (khas_of (i.n - 1)) ?_
    unfold nbelow
    rw [u64_small (by have := (g11 e).2.1; omega) (by have := (g11 e).2.2; omega), u64_small hin.1 (by have := (g11 e).2.2; omega)]
    simp; omega
  · rw [if_neg (by omega), if_neg (by omega), if_neg (by omega), if_neg (by omega), if_neg (by omega), if_pos (by omega)]; exact h
  · rw [if_neg (by omega), if_neg (by omega), if_neg (by omega), if_neg (by omega), if_neg (by omega), if_neg (by omega)]
    have := go n1 n2 n10 hw3.1 hw3.2.1 hw3.2.2.1 hw3.2.2.2 h7 h8 h9 n11 n12
    exact h.set hs.len hl _ (khas_op (h.at_ this.2.1) (h.at_ this.2.2.1))
theorem nbelow_no {a b : Int} (h : u64 b ≤ u64 a) : nbelow a b = false := by unfold nbelow; simp; omega
theorem sat_branch {p : LProg} {s : KSt} {r : List Int} {i : LIns} (ha : okIn 8 i.a = true) (hb : okIn 8 i.b = true) (hs : Sok s) (hl : r.length = 10) (h64 : All64 r) (h : Sat s r) : Sat (branchK s i (nholds i.c (rg r i.a) (rg r i.b))) r := by
  have ka := h.at_ ha
  have kb := h.at_ hb
  generalize hc : nholds i.c (rg r i.a) (rg r i.b) = hold
  have t1 : tells1 i.c hold = true → nbelow (rg r i.b) (rg r i.a) = false := by
    intro t
    apply nbelow_no
    subst hc
    simp only [tells1, nholds] at t
    by_cases e1 : i.c = 1
    · simp [e1] at t; rw [t]; omega
    by_cases e2 : i.c = 2
    · simp [e2] at t; rw [t]; omega
    by_cases e3 : i.c = 3
    · simp [e3] at t; omega
    by_cases e4 : i.c = 4
    · simp [e4] at t; omega
    simp [e1, e2, e3, e4] at t
  have t2 : tells2 i.c hold = true → nbelow (rg r i.a) (rg r i.b) = false := by
    intro t
    apply nbelow_no
    subst hc
    simp only [tells2, nholds] at t
    by_cases e1 : i.c = 1
    · simp [e1] at t; rw [t]; omega
    by_cases e2 : i.c = 2
    · simp [e2] at t; rw [t]; omega
    by_cases e3 : i.c = 3
    · simp [e3] at t; omega
    by_cases e4 : i.c = 4
    · simp [e4] at t; omega
    simp [e1, e2, e3, e4] at t
  simp only [branchK]
  have h1 : Sat (if tells1 i.c hold then kset s i.a (kless (kg s i.a) (kg s i.b)) else s) r := by
    split
    · rename_i e
      exact h.know hs.len _ (khas_less' (h64 _) ka kb (t1 e))
    · exact h
  have hl1 : (if tells1 i.c hold then kset s i.a (kless (kg s i.a) (kg s i.b)) else s).length = 8 := by
    split <;> simp [kset, hs.len]
  split
  · rename_i e
    exact h1.know hl1 _ (khas_less' (h64 _) kb ka (t2 e))
  · exact h1
def plainV (r : List Int) (i : LIns) : Int :=
  if i.op = 1 then i.n else if i.op = 2 then rg r i.b else if i.op = 10 then wrap64 (rg r i.b + i.n)
  else if i.op = 11 then (if rg r i.a < 0 ∨ i.n ≤ rg r i.a then 0 else rg r i.a) else nop (i.op - 20) (rg r i.b) (rg r i.c)
theorem rset_self (r : List Int) (a : Int) : rset r a (rg r a) = r := by
  unfold rset rg
  apply List.ext_getElem?
  intro j
  rw [List.getElem?_set]
  by_cases h : a.toNat = j
  · subst h
    by_cases h2 : a.toNat < r.length
    · simp [h2]
    · simp [h2]
  · rw [if_neg h]
theorem plainR_set (r : List Int) (i : LIns) (h : i.op ≠ 12) : plainR r i = rset r i.a (plainV r i) := by
  unfold plainR plainV
  by_cases e1 : i.op = 1
  · rw [if_pos e1, if_pos e1]
  rw [if_neg e1, if_neg e1]
  by_cases e2 : i.op = 2
  · rw [if_pos e2, if_pos e2]
  rw [if_neg e2, if_neg e2]
  by_cases e10 : i.op = 10
  · rw [if_pos e10, if_pos e10]
  rw [if_neg e10, if_neg e10]
  by_cases e11 : i.op = 11
  · rw [if_pos e11, if_pos e11]
    split
    · rfl
    · exact (rset_self r i.a).symm
  rw [if_neg e11, if_neg e11, if_neg h]
theorem not_word {i : LIns} (h : isWord i = false) : i.op ≠ 3 ∧ i.op ≠ 4 ∧ i.op ≠ 5 ∧ i.op ≠ 6 ∧ isPut i = false ∧ isTake i = false := by
  simp only [isWord, Bool.or_eq_false_iff] at h
  have h2 := h
  simp [isPut, isTake] at h2
  exact ⟨by omega, by omega, by omega, by omega, h.1, h.2⟩
theorem rightP_plain (p : LProg) (a : Plc) {i : LIns} (hw : isWord i = false) (h7 : i.op ≠ 7) (h8 : i.op ≠ 8) (h9 : i.op ≠ 9) : rightP p i a = { a with at_ := a.at_ + 1, regs := plainR a.regs i } := by
  obtain ⟨-, -, -, -, hp, ht⟩ := not_word hw
  unfold rightP
  rw [if_neg h7, if_neg h8, hp, ht]
  by_cases e12 : i.op = 12
  · rw [if_pos (.inr e12)]
    simp [plainR, e12]
  · rw [if_neg (by omega)]
    simp
theorem rightP_take (p : LProg) (a : Plc) {i : LIns} (h : isTake i = true) : rightP p i a = { a with at_ := a.at_ + 1, regs := rset a.regs i.a (if thereB p i a then a.words.getD (wordN p i a).toNat 0 else 0) } := by
  have hop : i.op = 3 ∨ i.op = 5 := by simpa [isTake] using h
  have hp : isPut i = false := by simp [isPut]; omega
  unfold rightP
  rw [if_neg (by omega), if_neg (by omega), if_neg (by omega), hp, h]
  simp
theorem rightP_put (p : LProg) (a : Plc) {i : LIns} (h : isPut i = true) (ht : thereB p i a = true) : rightP p i a = { a with at_ := a.at_ + 1, past := a.past.set (wordN p i a).toNat (a.past.getD (wordN p i a).toNat [] ++ [a.words.getD (wordN p i a).toNat 0]), words := a.words.set (wordN p i a).toNat (rg a.regs i.a) } := by
  have hop : i.op = 4 ∨ i.op = 6 := by simpa [isPut] using h
  unfold rightP
  rw [if_neg (by omega), if_neg (by omega), if_neg (by omega), h, ht]
  simp
theorem rightP_put0 (p : LProg) (a : Plc) {i : LIns} (h : isPut i = true) (ht : thereB p i a = false) : rightP p i a = { a with at_ := a.at_ + 1 } := by
  have hop : i.op = 4 ∨ i.op = 6 := by simpa [isPut] using h
  unfold rightP
  rw [if_neg (by omega), if_neg (by omega), if_neg (by omega), h, ht]
  simp
theorem rightP_at (p : LProg) (a : Plc) {i : LIns} (h7 : i.op ≠ 7) (h8 : i.op ≠ 8) : (rightP p i a).at_ = a.at_ + 1 := by
  unfold rightP
  rw [if_neg h7, if_neg h8]
  repeat' split
  all_goals rfl
theorem rightP_if (p : LProg) (a : Plc) {i : LIns} (h8 : i.op = 8) : rightP p i a = { a with at_ := if nholds i.c (rg a.regs i.a) (rg a.regs i.b) then i.n.toNat else a.at_ + 1 } := by
  unfold rightP
  rw [if_neg (by omega), if_pos h8]
theorem rightP_jump (p : LProg) (a : Plc) {i : LIns} (h7 : i.op = 7) : rightP p i a = { a with at_ := i.n.toNat } := by
  unfold rightP
  rw [if_pos h7]
theorem oneK_take (p : LProg) (s : KSt) {i : LIns} (h : isTake i = true) : oneK p s i = kset s i.a ⟨17, (regOf p i).secret⟩ := by
  have hop : i.op = 3 ∨ i.op = 5 := by simpa [isTake] using h
  unfold oneK
  rw [if_neg (by omega), if_neg (by omega), if_neg (by omega), if_pos hop]
theorem oneK_put (p : LProg) (s : KSt) {i : LIns} (h : isPut i = true) : oneK p s i = s := by
  have hop : i.op = 4 ∨ i.op = 6 := by simpa [isPut] using h
  unfold oneK
  rw [if_neg (by omega), if_neg (by omega), if_neg (by omega), if_neg (by omega), if_neg (by omega), if_pos (by omega)]
theorem past_set_get (l : List (List Int)) (k : Nat) (x : List Int) (n : Nat) : (l.set k x).getD n [] = if n = k ∧ n < l.length then x else l.getD n [] := by
  rw [List.getD_eq_getElem?_getD, List.getElem?_set]
  by_cases e : k = n
  · subst e
    by_cases h2 : k < l.length <;> simp [h2]
  · rw [if_neg e, if_neg (by omega), ← List.getD_eq_getElem?_getD]
theorem snoc_get (l : List Int) (x : Int) (n : Nat) : (l ++ [x]).getD n 0 = if n = l.length then x else l.getD n 0 := by
  simp only [List.getD_eq_getElem?_getD, List.getElem?_append]
  by_cases h : n < l.length
  · rw [if_pos h, if_neg (by omega)]
  · rw [if_neg h]
    by_cases e : n = l.length
    · subst e; simp
    · rw [if_neg e, List.getElem?_eq_none (by simp; omega), List.getElem?_eq_none (by omega)]
theorem All64.snoc {l : List Int} (h : All64 l) {x : Int} (hx : R64 x) : All64 (l ++ [x]) := fun n => by
  rw [snoc_get]
  split
  · exact hx
  · exact h n
theorem good_right {p : LProg} {s : KSt} {a : Plc} {i : LIns} (hok : insOk p 8 i = true) (hn : R64 i.n) (hs : Sok s) (h : Good p s a) (h7 : i.op ≠ 7) (h8 : i.op ≠ 8) (h9 : i.op ≠ 9) : Good p (oneK p s i) (rightP p i a) := by
  cases hw : isWord i
  · rw [rightP_plain p a hw h7 h8 h9]
    exact ⟨by simp [plain_len, h.regs], all64_plain h.r64 hn, sat_plain hok hs h.regs h.r64 h.sat hw h7 h8 h9, h.words, h.w64, h.past, h.p64⟩
  · cases hp : isPut i
    · have ht : isTake i = true := by simpa [isWord, hp] using hw
      rw [rightP_take p a ht, oneK_take p s ht]
      have hv : R64 (if thereB p i a then a.words.getD (wordN p i a).toNat 0 else 0) := by
        split
        · exact h.w64 _
        · exact r64_zero
      exact ⟨by simp [rset_len, h.regs], h.r64.rset _ hv, h.sat.set hs.len h.regs _ (khas_17 rfl), h.words, h.w64, h.past, h.p64⟩
    · rw [oneK_put p s hp]
      cases ht : thereB p i a
      · rw [rightP_put0 p a hp ht]
        exact h.goTo _
      · rw [rightP_put p a hp ht]
        refine ⟨h.regs, h.r64, h.sat, by simp [h.words], h.w64.set _ (h.r64 _), by simp [h.past], fun n => ?_⟩
        simp only
        rw [past_set_get]
        split
        · exact (h.p64 _).snoc (h.w64 _)
        · exact h.p64 n
theorem good_wrong {p : LProg} {s : KSt} {a x : Plc} {i : LIns} {c : Int} (hs : Sok s) (h : Good p s a) (ht : isTake i = true) (hx : wrongP p i a c = some x) : Good p (oneK p s i) x := by
  have hop : i.op = 3 ∨ i.op = 5 := by simpa [isTake] using ht
  unfold wrongP at hx
  rw [if_neg (by omega)] at hx
  split at hx
  · split at hx
    · simp only [Option.some.injEq] at hx
      subst hx
      rw [oneK_take p s ht]
      have e : ∀ (u v : Int), rset (rset a.regs i.a u) i.a v = rset a.regs i.a v := fun u v => by simp [rset]
      rw [e]
      exact ⟨by simp [rset_len, h.regs], h.r64.rset _ (h.p64 _ _), h.sat.set hs.len h.regs _ (khas_17 rfl), h.words, h.w64, h.past, h.p64⟩
    · cases hx
  · cases hx
def EqP (s : KSt) (r t : List Int) : Prop := ∀ j, j < 8 → (s.getD j default).sec = false → r.getD j 0 = t.getD j 0
structure MemR (p : LProg) (a b : Plc) : Prop where
  pub : Pub p a.words b.words
  plen : ∀ n, (a.past.getD n []).length = (b.past.getD n []).length
  ppub : ∀ n, secW p n = false → a.past.getD n [] = b.past.getD n []
structure Pair (p : LProg) (s : KSt) (a b : Plc) : Prop where
  ga : Good p s a
  gb : Good p s b
  eq : EqP s a.regs b.regs
  mem : MemR p a b
theorem EqP.mono {s t : KSt} {r u : List Int} (h : EqP s r u) (k : Sle s t) : EqP t r u := fun j hj e => h j hj (by
  cases hs : (s.getD j default).sec
  · rfl
  · rw [(k j).2 hs] at e; cases e)
theorem EqP.set {s : KSt} {r u : List Int} (h : EqP s r u) (hl : s.length = 8) (hr : r.length = 10) (hu : u.length = 10) (a : Int) {k : LKn} {v w : Int} (hv : k.sec = false → v = w) : EqP (kset s a k) (rset r a v) (rset u a w) := fun j hj => by
  rw [kset_get, hl]
  unfold rset
  rw [set_get, set_get, hr, hu]
  by_cases e : j = a.toNat
  · rw [if_pos ⟨e, hj⟩, if_pos ⟨e, by omega⟩, if_pos ⟨e, by omega⟩]; exact hv
  · rw [if_neg (by omega), if_neg (by omega), if_neg (by omega)]; exact h j hj
theorem EqP.at_ {s : KSt} {r u : List Int} (h : EqP s r u) {a : Int} (ha : okIn 8 a = true) (hs : (kg s a).sec = false) : rg r a = rg u a := by
  rw [okIn_iff] at ha
  exact h a.toNat (by omega) hs
theorem EqP.know {s : KSt} {r u : List Int} (h : EqP s r u) (hl : s.length = 8) (a : Int) {k : LKn} (hk : k.sec = (kg s a).sec) : EqP (kset s a k) r u := fun j hj => by
  rw [kset_get, hl]
  by_cases e : j = a.toNat
  · rw [if_pos ⟨e, hj⟩, e, hk]
    intro hs
    exact h a.toNat (by omega) hs
  · rw [if_neg (by omega)]; exact h j hj
theorem Pair.mono {p : LProg} {s t : KSt} {a b : Plc} (hs : Sok s) (ht : Sok t) (h : Pair p s a b) (k : Sle s t) : Pair p t a b := ⟨h.ga.mono hs ht k, h.gb.mono hs ht k, h.eq.mono k, h.mem⟩
theorem Pair.goTo {p : LProg} {s : KSt} {a b : Plc} (h : Pair p s a b) (k l : Nat) : Pair p s { a with at_ := k } { b with at_ := l } := ⟨h.ga.goTo k, h.gb.goTo l, h.eq, ⟨h.mem.1, h.mem.2, h.mem.3⟩⟩
theorem pair_idx {p : LProg} {s : KSt} {a b : Plc} {i : LIns} (hok : insOk p 8 i = true) (hq : quietK p s i = true) (h : Pair p s a b) (hw : isWord i = true) : idxOf a.regs i = idxOf b.regs i ∧ wordN p i a = wordN p i b ∧ thereB p i a = thereB p i b := by
  obtain ⟨g1, g2, g10, g3, g5, g8, g9, g11, go, g7, gop⟩ := ins_regs hok
  have e1 : idxOf a.regs i = idxOf b.regs i := by
    unfold idxOf
    rcases word_ops hw with e | e | e | e
    · rw [if_neg (by omega), if_neg (by omega), h.eq.at_ (g3 (.inl e)).2 (by simpa [quietK, e] using hq)]
    · have : (kg s i.b).sec = false := by
        simp only [quietK, e] at hq
        simp at hq
        exact hq.1
      rw [if_neg (by omega), if_neg (by omega), h.eq.at_ (g3 (.inr e)).2 this]
    · rw [if_pos (by omega), if_pos (by omega)]
    · rw [if_pos (by omega), if_pos (by omega)]
  have e2 : wordN p i a = wordN p i b := by unfold wordN; rw [e1]
  exact ⟨e1, e2, by unfold thereB; rw [e2, h.ga.words, h.gb.words]⟩
theorem sec_of {p : LProg} {i : LIns} {a : Plc} (hp : regsOk p.regs = true) (hc : i.c.toNat < p.regs.length) (hin : insideB p i (idxOf a.regs i) = true) : secW p (wordN p i a).toNat = (regOf p i).secret ∧ 0 ≤ wordN p i a ∧ (wordN p i a).toNat < total p := by
  obtain ⟨h1, h2, h3, h4⟩ := idx_small hp hc hin
  unfold wordN
  rw [h4, Int.toNat_natCast]
  refine ⟨?_, by omega, h2⟩
  simp only [insideB, Bool.and_eq_true, decide_eq_true_eq] at hin
  unfold regOf at hin ⊢
  exact secAt_base p.regs i.c.toNat (idxOf a.regs i).toNat hc (by omega)
theorem plain_eq {p : LProg} {s : KSt} {r u : List Int} {i : LIns} (hok : insOk p 8 i = true) (hs : Sok s) (hr : r.length = 10) (hu : u.length = 10) (h : EqP s r u) (hw : isWord i = false) (h7 : i.op ≠ 7) (h8 : i.op ≠ 8) (h9 : i.op ≠ 9) : EqP (oneK p s i) (plainR r i) (plainR u i) := by
  obtain ⟨g1, g2, g10, g3, g5, g8, g9, g11, go, g7, gop⟩ := ins_regs hok
  obtain ⟨w3, w4, w5, w6, -, -⟩ := not_word hw
  by_cases e12 : i.op = 12
  · have : oneK p s i = s := by
      unfold oneK
      rw [if_neg (by omega), if_neg (by omega), if_neg (by omega), if_neg (by omega), if_neg (by omega), if_pos (by omega)]
    rw [this]
    unfold plainR
    rw [if_neg (by omega), if_neg (by omega), if_neg (by omega), if_neg (by omega), if_pos e12, if_neg (by omega), if_neg (by omega), if_neg (by omega), if_neg (by omega), if_pos e12]
    exact h
  rw [plainR_set r i e12, plainR_set u i e12]
  unfold oneK plainV
  by_cases e1 : i.op = 1
  · rw [if_pos e1, if_pos e1, if_pos e1]
    exact h.set hs.len hr hu _ fun _ => rfl
  rw [if_neg e1, if_neg e1, if_neg e1]
  by_cases e2 : i.op = 2
  · rw [if_pos e2, if_pos e2, if_pos e2]
    exact h.set hs.len hr hu _ fun e => h.at_ (g2 e2).2 e
  rw [if_neg e2, if_neg e2, if_neg e2]
  by_cases e10 : i.op = 10
  · rw [if_pos e10, if_pos e10, if_pos e10]
    refine h.set hs.len hr hu _ fun e => ?_
    have hb : (kg s i.b).sec = false := by
      unfold ksum at e
      split at e
      · exact e
      · simp only [kopK, Bool.or_eq_false_iff] at e; exact e.1
    rw [h.at_ (g10 e10).2 hb]
  rw [if_neg e10, if_neg e10, if_neg e10, if_neg (by omega)]
  by_cases e11 : i.op = 11
  · rw [if_pos e11, if_pos e11, if_pos e11]
    refine h.set hs.len hr hu _ fun e => ?_
    have ha : rg r i.a = rg u i.a := h.at_ (g11 e11).1 e
    rw [ha]
  rw [if_neg e11, if_neg e11, if_neg e11, if_neg (by omega)]
  have := go e1 e2 e10 w3 w4 w5 w6 h7 h8 h9 e11 e12
  refine h.set hs.len hr hu _ fun e => ?_
  simp only [kopK, Bool.or_eq_false_iff] at e
  rw [h.at_ this.2.1 e.1, h.at_ this.2.2.1 e.2]
theorem pair_sees {p : LProg} {s : KSt} {a b : Plc} {i : LIns} (hok : insOk p 8 i = true) (hq : quietK p s i = true) (h : Pair p s a b) : usesC p i a = usesC p i b ∧ seesP p i a = seesP p i b := by
  obtain ⟨g1, g2, g10, g3, g5, g8, g9, g11, go, g7, gop⟩ := ins_regs hok
  cases hw : isWord i
  · obtain ⟨w3, w4, w5, w6, hp, ht⟩ := not_word hw
    refine ⟨by simp [usesC, ht], ?_⟩
    unfold seesP
    rw [hw]
    split
    · rfl
    · rename_i hc
      simp only [Bool.false_eq_true, if_false, plainS]
      split
      · rename_i h29
        have := go (by omega) (by omega) (by omega) w3 w4 w5 w6 (by omega) (by omega) (by omega) (by omega) (by omega)
        have hq' : (kg s i.b).sec = false ∧ (kg s i.c).sec = false := by
          unfold quietK at hq
          rw [if_neg w3, if_neg w4, if_neg w6, if_neg (by omega), if_pos h29] at hq
          simpa using hq
        rw [h.eq.at_ this.2.1 hq'.1, h.eq.at_ this.2.2.1 hq'.2]
      · rfl
  · obtain ⟨e1, e2, e3⟩ := pair_idx hok hq h hw
    refine ⟨by unfold usesC; rw [e3], ?_⟩
    unfold seesP
    rw [e2, hw]
    split
    · rfl
    · rfl
theorem pair_right {p : LProg} {s : KSt} {a b : Plc} {i : LIns} (hp : regsOk p.regs = true) (hok : insOk p 8 i = true) (hn : R64 i.n) (hs : Sok s) (hq : quietK p s i = true) (h : Pair p s a b) (hin : isWord i = true → insideB p i (idxOf a.regs i) = true)
    (h7 : i.op ≠ 7) (h8 : i.op ≠ 8) (h9 : i.op ≠ 9) : Pair p (oneK p s i) (rightP p i a) (rightP p i b) := by
  refine ⟨good_right hok hn hs h.ga h7 h8 h9, good_right hok hn hs h.gb h7 h8 h9, ?_, ?_⟩
  · cases hw : isWord i
    · rw [rightP_plain p a hw h7 h8 h9, rightP_plain p b hw h7 h8 h9]
      exact plain_eq hok hs h.ga.regs h.gb.regs h.eq hw h7 h8 h9
    · obtain ⟨e1, e2, e3⟩ := pair_idx hok hq h hw
      have hc := (region_there hok hw).2
      obtain ⟨s1, s2, s3⟩ := sec_of hp hc (hin hw)
      cases hput : isPut i
      · have ht : isTake i = true := by simpa [isWord, hput] using hw
        rw [rightP_take p a ht, rightP_take p b ht, oneK_take p s ht, ← e2, ← e3]
        refine h.eq.set hs.len h.ga.regs h.gb.regs _ fun e => ?_
        split
        · exact h.mem.pub _ (by rw [s1]; exact e)
        · rfl
      · rw [oneK_put p s hput]
        cases ht : thereB p i a
        · rw [rightP_put0 p a hput ht, rightP_put0 p b hput (by rw [← e3]; exact ht)]
          exact h.eq
        · rw [rightP_put p a hput ht, rightP_put p b hput (by rw [← e3]; exact ht)]
          exact h.eq
  · cases hw : isWord i
    · rw [rightP_plain p a hw h7 h8 h9, rightP_plain p b hw h7 h8 h9]
      exact ⟨h.mem.1, h.mem.2, h.mem.3⟩
    · obtain ⟨e1, e2, e3⟩ := pair_idx hok hq h hw
      have hc := (region_there hok hw).2
      obtain ⟨s1, s2, s3⟩ := sec_of hp hc (hin hw)
      cases hput : isPut i
      · have ht : isTake i = true := by simpa [isWord, hput] using hw
        rw [rightP_take p a ht, rightP_take p b ht]
        exact ⟨h.mem.1, h.mem.2, h.mem.3⟩
      · cases ht : thereB p i a
        · rw [rightP_put0 p a hput ht, rightP_put0 p b hput (by rw [← e3]; exact ht)]
          exact ⟨h.mem.1, h.mem.2, h.mem.3⟩
        · rw [rightP_put p a hput ht, rightP_put p b hput (by rw [← e3]; exact ht), ← e2]
          have hA : secW p (wordN p i a).toNat = false → rg a.regs i.a = rg b.regs i.a := fun e => by
            rw [s1] at e
            obtain ⟨g1, g2, g10, g3, g5, g8, g9, g11, go, g7, gop⟩ := ins_regs hok
            have hop : i.op = 4 ∨ i.op = 6 := by simpa [isPut] using hput
            rcases hop with o | o
            · refine h.eq.at_ (g3 (.inr o)).1 ?_
              simp [quietK, o, e] at hq
              exact hq.2
            · refine h.eq.at_ (g5 (.inr o)) ?_
              simpa [quietK, o, e] using hq
          refine ⟨fun n e => ?_, fun n => ?_, fun n e => ?_⟩
          · simp only
            rw [set_get, set_get, h.ga.words, h.gb.words]
            split
            · rename_i hh; exact hA (by rw [← hh.1]; exact e)
            · exact h.mem.pub n e
          · simp only
            rw [past_set_get, past_set_get, h.ga.past, h.gb.past]
            split
            · rw [List.length_append, List.length_append, h.mem.plen]; rfl
            · exact h.mem.plen n
          · simp only
            rw [past_set_get, past_set_get, h.ga.past, h.gb.past]
            split
            · rename_i hh
              rw [← hh.1, h.mem.ppub n e, h.mem.pub n e]
            · exact h.mem.ppub n e
theorem pair_wrong {p : LProg} {s : KSt} {a b : Plc} {i : LIns} (hp : regsOk p.regs = true) (hok : insOk p 8 i = true) (hs : Sok s) (hq : quietK p s i = true) (h : Pair p s a b) (hin : isWord i = true → insideB p i (idxOf a.regs i) = true)
    (ht : isTake i = true) (c : Int) : (wrongP p i a c = none ∧ wrongP p i b c = none) ∨ ∃ x y, wrongP p i a c = some x ∧ wrongP p i b c = some y ∧ Pair p (oneK p s i) x y ∧ x.at_ = a.at_ + 1 ∧ y.at_ = b.at_ + 1 := by
  have hw : isWord i = true := by simp [isWord, ht]
  have hop : i.op = 3 ∨ i.op = 5 := by simpa [isTake] using ht
  obtain ⟨e1, e2, e3⟩ := pair_idx hok hq h hw
  have hc := (region_there hok hw).2
  obtain ⟨s1, s2, s3⟩ := sec_of hp hc (hin hw)
  have hl := h.mem.plen (wordN p i a).toNat
  have wa : wrongP p i a c = if 0 < c ∧ c ≤ (a.past.getD (wordN p i a).toNat []).length ∧ thereB p i a = true then
      some { a with at_ := a.at_ + 1, regs := rset (rset a.regs i.a (a.words.getD (wordN p i a).toNat 0)) i.a ((a.past.getD (wordN p i a).toNat []).getD ((a.past.getD (wordN p i a).toNat []).length - c.toNat) 0) } else none := by
    unfold wrongP
    rw [if_neg (by omega), ht]
    cases thereB p i a
    · rw [if_neg (by simp), if_neg (by simp)]
    · rw [if_pos (by simp)]
      by_cases hcc : 0 < c ∧ c ≤ (a.past.getD (wordN p i a).toNat []).length
      · rw [if_pos hcc, if_pos ⟨hcc.1, hcc.2, rfl⟩]
      · rw [if_neg hcc, if_neg (by rintro ⟨q1, q2, -⟩; exact hcc ⟨q1, q2⟩)]
  have wb : wrongP p i b c = if 0 < c ∧ c ≤ (a.past.getD (wordN p i a).toNat []).length ∧ thereB p i a = true then
      some { b with at_ := b.at_ + 1, regs := rset (rset b.regs i.a (b.words.getD (wordN p i a).toNat 0)) i.a ((b.past.getD (wordN p i a).toNat []).getD ((a.past.getD (wordN p i a).toNat []).length - c.toNat) 0) } else none := by
    unfold wrongP
    rw [if_neg (by omega), ht, ← e2, ← e3, ← hl]
    cases thereB p i a
    · rw [if_neg (by simp), if_neg (by simp)]
    · rw [if_pos (by simp)]
      by_cases hcc : 0 < c ∧ c ≤ (a.past.getD (wordN p i a).toNat []).length
      · rw [if_pos hcc, if_pos ⟨hcc.1, hcc.2, rfl⟩]
      · rw [if_neg hcc, if_neg (by rintro ⟨q1, q2, -⟩; exact hcc ⟨q1, q2⟩)]
  by_cases hcc : 0 < c ∧ c ≤ (a.past.getD (wordN p i a).toNat []).length ∧ thereB p i a = true
  · rw [if_pos hcc] at wa wb
    refine .inr ⟨_, _, wa, wb, ⟨good_wrong hs h.ga ht wa, good_wrong hs h.gb ht wb, ?_, ⟨h.mem.1, h.mem.2, h.mem.3⟩⟩, rfl, rfl⟩
    rw [oneK_take p s ht]
    have e : ∀ (r : List Int) (u v : Int), rset (rset r i.a u) i.a v = rset r i.a v := fun r u v => by simp [rset]
    simp only [e]
    refine h.eq.set hs.len h.ga.regs h.gb.regs _ fun es => ?_
    rw [h.mem.ppub _ (by rw [s1]; exact es)]
  · rw [if_neg hcc] at wa wb
    exact .inl ⟨wa, wb⟩
theorem pair_branch {p : LProg} {s : KSt} {a b : Plc} {i : LIns} (hok : insOk p 8 i = true) (hs : Sok s) (hq : quietK p s i = true) (h : Pair p s a b) (h8 : i.op = 8) :
    nholds i.c (rg a.regs i.a) (rg a.regs i.b) = nholds i.c (rg b.regs i.a) (rg b.regs i.b) ∧ Pair p (branchK s i (nholds i.c (rg a.regs i.a) (rg a.regs i.b))) a b := by
  obtain ⟨g1, g2, g10, g3, g5, g8, g9, g11, go, g7, gop⟩ := ins_regs hok
  obtain ⟨ha, hb, -, -⟩ := g8 h8
  have hq' : (kg s i.a).sec = false ∧ (kg s i.b).sec = false := by
    simpa [quietK, h8] using hq
  have e := h.eq.at_ ha hq'.1
  have f := h.eq.at_ hb hq'.2
  have eh : nholds i.c (rg a.regs i.a) (rg a.regs i.b) = nholds i.c (rg b.regs i.a) (rg b.regs i.b) := by rw [e, f]
  refine ⟨eh, ?_, ?_, ?_, h.mem⟩
  · exact ⟨h.ga.regs, h.ga.r64, sat_branch (p := p) ha hb hs h.ga.regs h.ga.r64 h.ga.sat, h.ga.words, h.ga.w64, h.ga.past, h.ga.p64⟩
  · rw [eh]
    exact ⟨h.gb.regs, h.gb.r64, sat_branch (p := p) ha hb hs h.gb.regs h.gb.r64 h.gb.sat, h.gb.words, h.gb.w64, h.gb.past, h.gb.p64⟩
  · simp only [branchK]
    have h1 : EqP (if tells1 i.c (nholds i.c (rg a.regs i.a) (rg a.regs i.b)) then kset s i.a (kless (kg s i.a) (kg s i.b)) else s) a.regs b.regs := by
      split
      · exact h.eq.know hs.len _ rfl
      · exact h.eq
    split
    · refine EqP.know h1 (by split <;> simp [kset, hs.len]) _ ?_
      show (kg s i.b).sec = _
      split
      · unfold kg
        rw [kset_get]
        split
        · rename_i e2
          show _ = (kg s i.a).sec
          unfold kg
          rw [e2.1]
        · rfl
      · rfl
    · exact h1
structure Sound (p : LProg) (T : Tab) : Prop where
  may : mayOk p = true
  n64 : ∀ i ∈ p.code, R64 i.n
  post : Post p T
  none_ : (faultOf p T).1 = 0
theorem insAt_of {p : LProg} {k : Nat} {i : LIns} (h : p.code[k]? = some i) : insAt p k = i := by
  unfold insAt
  rw [List.getD_eq_getElem?_getD, h]; rfl
theorem tg_lt {p : LProg} {T : Tab} (h : Tok p T) {k : Nat} {s : KSt} (hk : tg T k = some s) : k < p.code.length := by
  rcases Nat.lt_or_ge k p.code.length with h1 | h1
  · exact h1
  · unfold tg at hk
    rw [List.getD_eq_getElem?_getD, List.getElem?_eq_none (by rw [h.len]; omega)] at hk
    simp at hk
section
variable {p : LProg} {T : Tab} {k : Nat} {s : KSt} {i : LIns}
theorem Sound.ins (h : Sound p T) (hi : p.code[k]? = some i) : insOk p 8 i = true ∧ R64 i.n := by
  have hm := List.mem_of_getElem? hi
  exact ⟨(may_parts h.may).2.2.2 i hm, h.n64 i hm⟩
theorem Sound.faults (h : Sound p T) (hk : tg T k = some s) (hi : p.code[k]? = some i) : boundK p k s i = true ∧ quietK p s i = true := by
  have := fault_none h.post.tok.len h.none_ k s hk
  rw [insAt_of hi] at this
  exact this
theorem Sound.led (h : Sound p T) (hk : tg T k = some s) (hi : p.code[k]? = some i) {x : Nat × KSt} (hx : x ∈ leadsK p k s i) : x.1 < p.code.length → ∃ t, tg T x.1 = some t ∧ Sle x.2 t := by
  have := h.post.leads k s hk
  rw [insAt_of hi] at this
  exact this x hx
theorem Sound.inside (h : Sound p T) (hk : tg T k = some s) (hi : p.code[k]? = some i) {r : List Int} (hs : Sat s r) (hw : isWord i = true) : insideB p i (idxOf r i) = true := by
  obtain ⟨hb, hq⟩ := h.faults hk hi
  obtain ⟨hok, hn⟩ := h.ins hi
  obtain ⟨g1, g2, g10, g3, g5, g8, g9, g11, go, g7, gop⟩ := ins_regs hok
  have hregs := (may_parts h.may).1
  have hc := region_there hok hw
  have hlog := regsOk_log hregs (regOf p i) (by unfold regOf; simp [hc.2])
  have hop := word_ops hw
  by_cases e : i.op = 3 ∨ i.op = 4
  · unfold boundK at hb
    rw [if_neg (by omega), if_pos e] at hb
    simp only [Bool.and_eq_true, decide_eq_true_eq] at hb
    exact idx_inside hs (g3 e).2 (h.post.tok.ok k s hk) e hb.1.2 hb.2 hlog.2
  · have e5 : i.op = 5 ∨ i.op = 6 := by omega
    have : idxOf r i = i.n := by unfold idxOf; rw [if_pos e5]
    rw [this]
    simp only [insOk] at hok
    rw [if_neg (by omega), if_neg (by omega), if_neg (by omega), if_neg (by omega), if_pos e5] at hok
    simp only [okIn, Bool.and_eq_true, decide_eq_true_eq] at hok
    simp only [insideB, Bool.and_eq_true, decide_eq_true_eq]
    unfold regOf
    exact hok.2
theorem Sound.next (h : Sound p T) (hk : tg T k = some s) (hi : p.code[k]? = some i) (h7 : i.op ≠ 7) (h9 : i.op ≠ 9) : k + 1 < p.code.length := by
  obtain ⟨hb, hq⟩ := h.faults hk hi
  have hlt := tg_lt h.post.tok hk
  have : lastB p k = false := by
    unfold boundK at hb
    rw [if_neg (by omega)] at hb
    split at hb
    · simp only [Bool.and_eq_true] at hb; simpa using hb.1.1
    · simpa using hb
  simp only [lastB, decide_eq_false_iff_not] at this
  omega
end
def PP (p : LProg) (T : Tab) (a b : Plc) : Prop := a.at_ = b.at_ ∧ ∃ s, tg T a.at_ = some s ∧ Pair p s a b
theorem PP.to {p : LProg} {T : Tab} (h : Sound p T) {k : Nat} {s s' : KSt} {i : LIns} (hk : tg T k = some s) (hi : p.code[k]? = some i) {a b : Plc} {n : Nat} (hx : (n, s') ∈ leadsK p k s i) (hn : n < p.code.length) (hP : Pair p s' a b) (ha : a.at_ = n) (hb : b.at_ = n) : PP p T a b := by
  obtain ⟨t, ht, hl⟩ := h.led hk hi hx hn
  refine ⟨by rw [ha, hb], t, by rw [ha]; exact ht, hP.mono ?_ (h.post.tok.ok _ _ ht) hl⟩
  exact leadsK_ok p k (h.post.tok.ok k s hk) i _ hx
theorem good_start {p : LProg} {ws : List Int} (hl : ws.length = total p) (hw : ∀ x ∈ ws, R64 x) : Good p kstart ⟨List.replicate 10 0, ws, List.replicate ws.length [], 0⟩ := by
  have hz : ∀ n : Nat, (List.replicate 10 (0 : Int)).getD n 0 = 0 := fun n => by
    rw [List.getD_eq_getElem?_getD, List.getElem?_replicate]
    split <;> rfl
  have hp : ∀ n : Nat, (List.replicate ws.length ([] : List Int)).getD n [] = [] := fun n => by
    rw [List.getD_eq_getElem?_getD, List.getElem?_replicate]
    split <;> rfl
  refine ⟨by simp, fun n => ?_, fun j _ => ?_, hl, fun n => ?_, by simp [hl], fun n m => ?_⟩
  · simp only [hz]; exact r64_zero
  · simp only [hz]; exact khas_zero _
  · simp only
    rw [List.getD_eq_getElem?_getD]
    by_cases h : n < ws.length
    · simpa [h] using hw _ (List.getElem_mem h)
    · simpa [h] using r64_zero
  · simp only [hp]; simpa using r64_zero
theorem pair_start {p : LProg} {ws wt : List Int} (hl : ws.length = total p) (hm : wt.length = total p) (hw : ∀ x ∈ ws, R64 x) (hv : ∀ x ∈ wt, R64 x) (hp : Pub p ws wt) :
    Pair p kstart ⟨List.replicate 10 0, ws, List.replicate ws.length [], 0⟩ ⟨List.replicate 10 0, wt, List.replicate wt.length [], 0⟩ :=
  ⟨good_start hl hw, good_start hm hv, fun _ _ _ => rfl, ⟨hp, fun n => by simp only; rw [hl, hm], fun n _ => by simp only; rw [hl, hm]⟩⟩
abbrev Lab := Nat → Bool
def lb (L : Lab) (r : Int) : Bool := L r.toNat
structure Base (p : LProg) (a b : Plc) : Prop where
  ra : a.regs.length = 10
  rb : b.regs.length = 10
  wa : a.words.length = total p
  wb : b.words.length = total p
  pa : a.past.length = total p
  pb : b.past.length = total p
  mem : MemR p a b
theorem Base.goTo {p : LProg} {a b : Plc} (h : Base p a b) (k l : Nat) : Base p { a with at_ := k } { b with at_ := l } := ⟨h.1, h.2, h.3, h.4, h.5, h.6, ⟨h.mem.1, h.mem.2, h.mem.3⟩⟩
theorem Base.regs {p : LProg} {a b : Plc} (h : Base p a b) (k l : Nat) {r t : List Int} (hr : r.length = 10) (ht : t.length = 10) : Base p { a with at_ := k, regs := r } { b with at_ := l, regs := t } := ⟨hr, ht, h.3, h.4, h.5, h.6, ⟨h.mem.1, h.mem.2, h.mem.3⟩⟩
section
variable {p : LProg} {Ann : Nat → Lab → Option (Int × Int) → Prop}
end
section
variable {α β : Type}
def plc (f : α → List β) (l : List α) (k : Nat) : Nat := ((l.take k).flatMap f).length
theorem plc_zero (f : α → List β) (l : List α) : plc f l 0 = 0 := by simp [plc]
theorem plc_succ (f : α → List β) (l : List α) {k : Nat} {x : α} (h : l[k]? = some x) : plc f l (k + 1) = plc f l k + (f x).length := by
  obtain ⟨hk, rfl⟩ := List.getElem?_eq_some_iff.1 h
  unfold plc
  rw [List.take_succ_eq_append_getElem hk, List.flatMap_append]
  simp
theorem plc_all (f : α → List β) (l : List α) {k : Nat} (h : l.length ≤ k) : plc f l k = (l.flatMap f).length := by
  unfold plc
  rw [List.take_of_length_le h]
theorem plc_mono (f : α → List β) (l : List α) {j k : Nat} (h : j ≤ k) : plc f l j ≤ plc f l k := by
  obtain ⟨d, rfl⟩ : ∃ d, k = j + d := ⟨k - j, by omega⟩
  unfold plc
  rw [List.take_add, List.flatMap_append, List.length_append]
  omega
theorem flat_get (f : α → List β) (l : List α) {k : Nat} {x : α} (h : l[k]? = some x) (j : Nat) (hj : j < (f x).length) : (l.flatMap f)[plc f l k + j]? = (f x)[j]? := by
  obtain ⟨hk, rfl⟩ := List.getElem?_eq_some_iff.1 h
  have e : l = l.take k ++ l[k] :: l.drop (k + 1) := by
    rw [← List.drop_eq_getElem_cons hk, List.take_append_drop]
  have e2 : l.flatMap f = (l.take k).flatMap f ++ (f l[k] ++ (l.drop (k + 1)).flatMap f) := by
    conv => lhs; rw [e]
    rw [List.flatMap_append, List.flatMap_cons]
  rw [e2]
  unfold plc
  rw [List.getElem?_append_right (by omega), Nat.add_sub_cancel_left, List.getElem?_append_left hj]
theorem plc_lt (f : α → List β) (hf : ∀ x, f x ≠ []) (l : List α) {k : Nat} (h : k < l.length) : plc f l k < (l.flatMap f).length := by
  have h1 := plc_succ f l (List.getElem?_eq_getElem h)
  have h2 := plc_mono f l (show k + 1 ≤ l.length by omega)
  rw [plc_all f l (Nat.le_refl _)] at h2
  have := List.length_pos_iff.2 (hf l[k])
  omega
theorem flat_le (f : α → List β) (c : Nat) : ∀ (l : List α), (∀ x ∈ l, (f x).length ≤ c) → (l.flatMap f).length ≤ c * l.length
  | [], _ => by simp
  | x :: l, h => by
    have h1 := h x (by simp)
    have h2 := flat_le f c l fun y hy => h y (by simp [hy])
    rw [List.flatMap_cons, List.length_append, List.length_cons, Nat.mul_succ]
    omega
end
theorem insOk_regs {p q : LProg} (hr : p.regs = q.regs) {R : Int} {i : LIns} (h : insOk p R i = true) (h7 : ¬ (i.op = 7 ∨ i.op = 8)) : insOk q R i = true := by
  simp only [insOk] at *
  rw [← hr]
  by_cases e7 : i.op = 7
  · omega
  by_cases e8 : i.op = 8
  · omega
  simp only [e7, e8, if_false] at *
  exact h
theorem leads_next {p : LProg} {k : Nat} {s : KSt} {i : LIns} (h7 : i.op ≠ 7) (h8 : i.op ≠ 8) (h9 : i.op ≠ 9) : (k + 1, oneK p s i) ∈ leadsK p k s i := by
  unfold leadsK; rw [if_neg h7, if_neg h9, if_neg h8]; simp
end Go.Proofs.Ytmfgckfflkddcaa
