/- Laid together from: KnownL, CheckL, CheckQ, CheckS, Typed. -/
import Derived.Test.YteiknefajlocoaaLoadQuietB3
import Derived.Test.YteiknefajlocoaaLoadQuietB11
import Derived.Test.YteiknefajlocoaaLoadQuietB6
import Derived.Test.YteiknefajlocoaaLoadQuietB5

namespace Go.Proofs.Yteiknefajlocoaa
open Go.RowKit
theorem Qa4 {b n : Int} (h : nrm b = 17) : khas b n = true := by unfold khas kfit; rw [h]; rfl
theorem Q4i {b : Int} {m : Nat} (h : nrm b = m) (hm : m ≤ 16) (n : Int) : khas b n = true ↔ 0 ≤ n ∧ n < 2 ^ m := by
 unfold khas kfit
 rw [h, Int.toNat_natCast]
 simp
 omega
theorem Q6m (b : Int) : nrm b = 17 ∨ ∃ m : Nat, nrm b = m ∧ m ≤ 16 := by
 obtain ⟨h0, h1⟩ := Q43 b
 by_cases h : nrm b = 17
 ·exact .inl h
 ·exact .inr ⟨(nrm b).toNat, by omega, by omega⟩
theorem Q6f (m : Nat) (h : m ≤ 16) : (2 : Int) ^ m ≤ 65536 := Q42 m 16 h
theorem Qmz (m : Nat) : (1 : Int) ≤ 2 ^ m := by have : (0 : Int) < 2 ^ m := Int.pow_pos (by omega); omega
theorem Qpo {b c n : Int} (h : nrm b ≤ nrm c) (hb : khas b n = true) : khas c n = true := by
 rcases Q6m c with hc | ⟨k, hc, hk⟩
 ·exact Qa4 hc
 ·rcases Q6m b with hb' | ⟨m, hb', hm⟩
  ·omega
  ·rw [Q4i hb' hm] at hb
   rw [Q4i hc hk]
   have := Q42 m k (by omega)
   omega
theorem Qpn (n : Int) : khas (kof n) n = true := by
 obtain ⟨h0, h1⟩ := Qc5 n
 by_cases h : kof n ≤ 16
 ·have := Qga n (kof n).toNat (by omega)
  rw [show (((kof n).toNat : Nat) : Int) = kof n by omega] at this
  rw [this]; simp
 ·exact Qa4 (by rw [Q9v h0 h1]; omega)
theorem Qig {n : Int} (h0 : 0 ≤ n) (h1 : n < 18446744073709551616) : u64 n = n := by unfold u64; omega
theorem Q5j {n : Int} (h0 : 0 ≤ n) (h1 : n ≤ 9223372036854775807) : wrap64 n = n := by unfold wrap64; omega
theorem Qhn (n m : Int) (h0 : 0 ≤ m) (h1 : m < 65536) : 0 ≤ bits .and .i64 n m ∧ bits .and .i64 n m ≤ m := by
 have e : bits .and .i64 n m = IntKind.i64.wrap ((BitVec.ofInt 64 n &&& BitVec.ofInt 64 m).toNat : Int) := rfl
 have hm : (BitVec.ofInt 64 m).toNat = m.toNat := by rw [BitVec.toNat_ofInt]; omega
 have hl : (BitVec.ofInt 64 n &&& BitVec.ofInt 64 m).toNat ≤ m.toNat := by
  rw [BitVec.toNat_and, hm]; exact Nat.and_le_right
 rw [e, Q76, Q5j (by omega) (by omega)]
 omega
theorem and_comm' (n m : Int) : bits .and .i64 n m = bits .and .i64 m n := by
 show IntKind.i64.wrap ((BitVec.ofInt 64 n &&& BitVec.ofInt 64 m).toNat : Int) = IntKind.i64.wrap ((BitVec.ofInt 64 m &&& BitVec.ofInt 64 n).toNat : Int)
 rw [BitVec.and_comm]
theorem Qfe (k : Nat) : ((2 ^ k : Nat) : Int) = (2 : Int) ^ k := by rw [Int.natCast_pow]; rfl
theorem Qbo (n m : Int) (k : Nat) (hk : k ≤ 16) (n0 : 0 ≤ n) (n1 : n < 2 ^ k) (m0 : 0 ≤ m) (m1 : m < 2 ^ k) : 0 ≤ bits .or .i64 n m ∧ bits .or .i64 n m < 2 ^ k := by
 have e : bits .or .i64 n m = IntKind.i64.wrap ((BitVec.ofInt 64 n ||| BitVec.ofInt 64 m).toNat : Int) := rfl
 have hp := Q6f k hk
 have hc := Qfe k
 have hn : (BitVec.ofInt 64 n).toNat = n.toNat := by rw [BitVec.toNat_ofInt]; omega
 have hm : (BitVec.ofInt 64 m).toNat = m.toNat := by rw [BitVec.toNat_ofInt]; omega
 have hl : (BitVec.ofInt 64 n ||| BitVec.ofInt 64 m).toNat < 2 ^ k := by
  rw [BitVec.toNat_or, hn, hm]; exact Nat.or_lt_two_pow (by omega) (by omega)
 rw [e, Q76, Q5j (by omega) (by omega)]
 omega
theorem Qhr (n m : Int) (k : Nat) (hk : k ≤ 16) (n0 : 0 ≤ n) (n1 : n < 2 ^ k) (m0 : 0 ≤ m) (m1 : m < 2 ^ k) : 0 ≤ bits .xor .i64 n m ∧ bits .xor .i64 n m < 2 ^ k := by
 have e : bits .xor .i64 n m = IntKind.i64.wrap ((BitVec.ofInt 64 n ^^^ BitVec.ofInt 64 m).toNat : Int) := rfl
 have hp := Q6f k hk
 have hc := Qfe k
 have hn : (BitVec.ofInt 64 n).toNat = n.toNat := by rw [BitVec.toNat_ofInt]; omega
 have hm : (BitVec.ofInt 64 m).toNat = m.toNat := by rw [BitVec.toNat_ofInt]; omega
 have hl : (BitVec.ofInt 64 n ^^^ BitVec.ofInt 64 m).toNat < 2 ^ k := by
  rw [BitVec.toNat_xor, hn, hm]; exact Nat.xor_lt_two_pow (by omega) (by omega)
 rw [e, Q76, Q5j (by omega) (by omega)]
 omega
theorem Qc2 (op a b : Int) (a0 : 0 ≤ a) (a1 : a ≤ 17) (b0 : 0 ≤ b) (b1 : b ≤ 17) : 0 ≤ kop op a b ∧ kop op a b ≤ 17 := by
 unfold kop kopN
 split
 ·split <;> omega
 repeat' (split <;> try omega)
theorem Qpm {op b c n m : Int} (hn : khas b n = true) (hm : khas c m = true) : khas (kop op (nrm b) (nrm c)) (nop op n m) = true := by
 obtain ⟨b0, b1⟩ := Q43 b
 obtain ⟨c0, c1⟩ := Q43 c
 obtain ⟨k0, k1⟩ := Qc2 op (nrm b) (nrm c) b0 b1 c0 c1
 have ek := Q9v k0 k1
 by_cases h17 : kop op (nrm b) (nrm c) = 17
 ·exact Qa4 (by rw [ek, h17])
 obtain ⟨k, hk⟩ : ∃ k : Nat, kop op (nrm b) (nrm c) = k := ⟨(kop op (nrm b) (nrm c)).toNat, by omega⟩
 have hk16 : k ≤ 16 := by omega
 rw [Q4i (by rw [ek, hk]) hk16]
 have hpk := Qmz k
 by_cases h1 : op = 1
 ·subst h1
  rcases Q6m b with hb | ⟨i, hb, hi⟩
  ·exfalso; apply h17; rw [hb]; simp [kop, kopN]; split <;> omega
  rcases Q6m c with hc | ⟨j, hc, hj⟩
  ·exfalso; apply h17; rw [hc]; simp [kop, kopN]; split <;> omega
  rw [Q4i hb hi] at hn
  rw [Q4i hc hj] at hm
  have p1 := Q6f i hi
  have p2 := Q6f j hj
  have e : nop 1 n m = wrap64 (n + m) := rfl
  rw [e, Q5j (by omega) (by omega)]
  have hkop : kop 1 (nrm b) (nrm c) = min (max (nrm b) (nrm c) + (if 0 < min (nrm b) (nrm c) then 1 else 0)) 17 := rfl
  rw [hb, hc] at hkop hk
  by_cases hz : 0 < min (i : Int) (j : Int)
  ·rw [if_pos hz] at hkop
   have q1 := Q42 i (max i j) (by omega)
   have q2 := Q42 j (max i j) (by omega)
   have q3 : (2 : Int) ^ k = 2 ^ (max i j) * 2 := by rw [← Int.pow_succ]; congr 1; omega
   omega
  ·rw [if_neg hz] at hkop
   have q1 := Q42 i k (by omega)
   have q2 := Q42 j k (by omega)
   rcases (show i = 0 ∨ j = 0 by omega) with h | h
   ·subst h; simp at hn; omega
   ·subst h; simp at hm; omega
 by_cases h3 : op = 3
 ·subst h3
  have hkop : kop 3 (nrm b) (nrm c) = min (if nrm b = 0 ∨ nrm c = 0 then 0 else nrm b + nrm c) 17 := rfl
  have e : nop 3 n m = wrap64 (n * m) := rfl
  rw [e]
  by_cases hz : nrm b = 0 ∨ nrm c = 0
  ·rw [if_pos hz] at hkop
   have hnm : n * m = 0 := by
    rcases hz with h | h
    ·rw [Q4i (m := 0) h (by omega)] at hn; simp at hn
     obtain rfl : n = 0 := by omega
     simp
    ·rw [Q4i (m := 0) h (by omega)] at hm; simp at hm
     obtain rfl : m = 0 := by omega
     simp
   rw [hnm, Q5j (by omega) (by omega)]
   omega
  ·rw [if_neg hz] at hkop
   rcases Q6m b with hb | ⟨i, hb, hi⟩
   ·omega
   rcases Q6m c with hc | ⟨j, hc, hj⟩
   ·omega
   rw [Q4i hb hi] at hn
   rw [Q4i hc hj] at hm
   have q3 : (2 : Int) ^ k = 2 ^ i * 2 ^ j := by rw [← Int.pow_add]; congr 1; omega
   have l1 : n * m < 2 ^ i * 2 ^ j := by
    have h1 : n * m ≤ n * 2 ^ j := Int.mul_le_mul_of_nonneg_left (by omega) hn.1
    have h2 : n * 2 ^ j < 2 ^ i * 2 ^ j := Int.mul_lt_mul_of_pos_right hn.2 (Int.pow_pos (by omega))
    omega
   have l0 : 0 ≤ n * m := Int.mul_nonneg hn.1 hm.1
   have p := Q6f k hk16
   rw [Q5j l0 (by omega)]
   omega
 by_cases h4 : op = 4
 ·subst h4
  have hkop : kop 4 (nrm b) (nrm c) = min (min (nrm b) (nrm c)) 17 := rfl
  have e : nop 4 n m = bits .and .i64 n m := rfl
  rw [e]
  by_cases hbc : nrm c ≤ nrm b
  ·have hc : nrm c = k := by omega
   rw [Q4i hc hk16] at hm
   have := Qhn n m hm.1 (by have := Q6f k hk16; omega)
   omega
  ·have hb : nrm b = k := by omega
   rw [Q4i hb hk16] at hn
   have := Qhn m n hn.1 (by have := Q6f k hk16; omega)
   rw [and_comm']
   omega
 by_cases h5 : op = 5 ∨ op = 6
 ·have hkop : kop op (nrm b) (nrm c) = min (max (nrm b) (nrm c)) 17 := by rcases h5 with rfl | rfl <;> rfl
  rcases Q6m b with hb | ⟨i, hb, hi⟩
  ·omega
  rcases Q6m c with hc | ⟨j, hc, hj⟩
  ·omega
  rw [Q4i hb hi] at hn
  rw [Q4i hc hj] at hm
  have q1 := Q42 i k (by omega)
  have q2 := Q42 j k (by omega)
  rcases h5 with rfl | rfl
  ·exact Qbo n m k hk16 hn.1 (by omega) hm.1 (by omega)
  ·exact Qhr n m k hk16 hn.1 (by omega) hm.1 (by omega)
 by_cases h8 : op = 8 ∨ op = 9 ∨ op = 10
 ·have hkop : kop op (nrm b) (nrm c) = min (nrm b) 17 := by rcases h8 with rfl | rfl | rfl <;> rfl
  have hb : nrm b = k := by omega
  rw [Q4i hb hk16] at hn
  have p := Q6f k hk16
  have hu : u64 n = n := Qig hn.1 (by omega)
  have hum := Q89 m
  rcases h8 with rfl | rfl | rfl
  ·have e : nop 8 n m = wrap64 (u64 n / 2 ^ sh m) := rfl
   rw [e, hu]
   have d0 : 0 ≤ n / 2 ^ sh m := Int.ediv_nonneg hn.1 (Int.le_of_lt (pow_pos' _))
   have d1 : n / 2 ^ sh m ≤ n := Int.ediv_le_self _ hn.1
   rw [Q5j d0 (by omega)]
   omega
  ·have e : nop 9 n m = if u64 m = 0 then 0 else wrap64 (u64 n / u64 m) := rfl
   rw [e, hu]
   split
   ·omega
   ·have d0 : 0 ≤ n / u64 m := Int.ediv_nonneg hn.1 hum
    have d1 : n / u64 m ≤ n := Int.ediv_le_self _ hn.1
    rw [Q5j d0 (by omega)]
    omega
  ·have e : nop 10 n m = if u64 m = 0 then n else wrap64 (u64 n % u64 m) := rfl
   rw [e, hu]
   split
   ·omega
   ·rename_i hz
    have d0 : 0 ≤ n % u64 m := Int.emod_nonneg _ hz
    have d1 : n % u64 m ≤ n := by
     have := Int.emod_add_mul_ediv n (u64 m)
     have h2 : 0 ≤ u64 m * (n / u64 m) := Int.mul_nonneg hum (Int.ediv_nonneg hn.1 hum)
     omega
    rw [Q5j d0 (by omega)]
    omega
 ·exfalso
  apply h17
  unfold kop
  rw [Qc3 _ _ h1 h3 h4 (fun h => h5 (.inl h)) (fun h => h5 (.inr h)) (fun h => h8 (.inl h)) (fun h => h8 (.inr (.inl h))) (fun h => h8 (.inr (.inr h)))]
  rfl
end Go.Proofs.Yteiknefajlocoaa

namespace Go.Proofs.Yteiknefajlocoaa
open Go.RowKit
set_option linter.unusedSimpArgs false
set_option linter.unusedVariables false
def Q5m : List LReg → Nat → Bool
 | [], _ => false
 | r :: l, n => if n < Q0b r then r.secret else Q5m l (n - Q0b r)
theorem Q9j : ∀ (l : List LReg) (r x : Nat), r < l.length → x < Q0b (l.getD r default) → Q5m l (((l.take r).map Q0b).sum + x) = (l.getD r default).secret
 | [], r, x, h, _ => by simp at h
 | a :: l, 0, x, _, h => by
  simp only [List.getD_cons_zero] at h
  simp [Q5m, h]
 | a :: l, r + 1, x, h, hx => by
  simp only [List.getD_cons_succ] at hx
  have := Q9j l r x (by simpa using h) hx
  simp only [List.take_succ_cons, List.map_cons, List.sum_cons, List.getD_cons_succ, Q5m]
  rw [if_neg (by omega), show Q0b a + ((l.take r).map Q0b).sum + x - Q0b a = ((l.take r).map Q0b).sum + x by omega, this]
def secW (p : Q01) (n : Nat) : Bool := Q5m p.regs n
def Pub (p : Q01) (a b : List Int) : Prop := ∀ n, secW p n = false → a.getD n 0 = b.getD n 0
def Q1q (l : List Int) : Prop := ∀ n : Nat, R64 (l.getD n 0)
theorem Q7l : R64 0 := ⟨by omega, by omega⟩
theorem Qbg (x : Int) : R64 (wrap64 x) := by unfold R64 wrap64; omega
theorem Qru (a b : Int) : R64 (bits .and .i64 a b) ∧ R64 (bits .or .i64 a b) ∧ R64 (bits .xor .i64 a b) := by
 have e : ∀ x : Int, R64 (IntKind.i64.wrap x) := fun x => by rw [Q76]; exact Qbg x
 exact ⟨e _, e _, e _⟩
theorem Qme {op a b : Int} (ha : R64 a) : R64 (nop op a b) := by
 have hb := Qru a b
 unfold nop
 repeat' split
 all_goals first | exact Qbg _ | exact hb.1 | exact hb.2.1 | exact hb.2.2 | exact ha | exact Q7l
theorem Q1q.set {l : List Int} (h : Q1q l) (k : Nat) {x : Int} (hx : R64 x) : Q1q (l.set k x) := fun n => by
 rw [List.getD_eq_getElem?_getD, List.getElem?_set]
 by_cases e : k = n
 ·subst e
  by_cases h2 : k < l.length
  ·simpa [h2] using hx
  ·simpa [h2] using Q7l
 ·rw [if_neg e, ← List.getD_eq_getElem?_getD]; exact h n
theorem Q2o (l : List Int) (k : Nat) (x : Int) (n : Nat) : (l.set k x).getD n 0 = if n = k ∧ n < l.length then x else l.getD n 0 := by
 rw [List.getD_eq_getElem?_getD, List.getElem?_set]
 by_cases e : k = n
 ·subst e
  by_cases h2 : k < l.length <;> simp [h2]
 ·rw [if_neg e, if_neg (by omega), ← List.getD_eq_getElem?_getD]
def Sat (s : KSt) (r : List Int) : Prop := ∀ j, j < 8 → khas (s.getD j default).bits (r.getD j 0) = true
theorem Sat.mono {s t : KSt} {r : List Int} (hs : Sok s) (ht : Sok t) (h : Sat s r) (k : Sle s t) : Sat t r := fun j hj => by
 refine Qpo ?_ (h j hj)
 rw [Q4d (hs.ok j), Q4d (ht.ok j)]
 exact (k j).1
theorem Sat.set {s : KSt} {r : List Int} (h : Sat s r) (hl : s.length = 8) (hr : r.length = 10) (a : Int) {k : LKn} {v : Int} (hv : khas k.bits v = true) : Sat (kset s a k) (rset r a v) := fun j hj => by
 rw [Q62, hl]
 unfold rset
 rw [Q2o, hr]
 by_cases e : j = a.toNat
 ·rw [if_pos ⟨e, hj⟩, if_pos ⟨e, by omega⟩]; exact hv
 ·rw [if_neg (by omega), if_neg (by omega)]; exact h j hj
theorem Q05 {b n : Int} : okIn b n = true ↔ 0 ≤ n ∧ n < b := by simp [okIn]
theorem Sat.at_ {s : KSt} {r : List Int} (h : Sat s r) {a : Int} (ha : okIn 8 a = true) : khas (kg s a).bits (rg r a) = true := by
 rw [Q05] at ha
 exact h a.toNat (by omega)
theorem Qpl {k : LKn} {x n : Int} (h : khas k.bits x = true) : khas (ksum k n).bits (wrap64 (x + n)) = true := by
 unfold ksum
 split
 ·exact Qa4 rfl
 ·exact Qpm (op := 1) h (Qpn n)
theorem Qqi {p : Q01} {s : KSt} {r : List Int} {i : LIns} (h : Sat s r) (hb : okIn 8 i.b = true) (hs : Sok s) (hop : i.op = 3 ∨ i.op = 4) (hn : 0 ≤ i.n) (hk : (ksum (kg s i.b) i.n).bits ≤ (Q08 p i).log) (hl : (Q08 p i).log ≤ 6) :
  Q2f p i (Q1g r i) = true := by
 have e : Q1g r i = wrap64 (rg r i.b + i.n) := by unfold Q1g; rw [if_neg (by omega)]
 have h1 := Qpl (n := i.n) (h.at_ hb)
 have ok := Qc1 (kg s i.b) i.n
 rw [e]
 obtain ⟨m, hm⟩ : ∃ m : Nat, (ksum (kg s i.b) i.n).bits = m := ⟨(ksum (kg s i.b) i.n).bits.toNat, by have := ok.1; omega⟩
 rw [Q4i (m := m) (by rw [Q4d ok, hm]) (by omega)] at h1
 have h2 := Q42 m (Q08 p i).log.toNat (by omega)
 have h3 : ((Q0b (Q08 p i) : Nat) : Int) = 2 ^ (Q08 p i).log.toNat := by unfold Q0b; rw [Int.natCast_pow]; rfl
 simp only [Q2f, Bool.and_eq_true, decide_eq_true_eq]
 rw [h3]
 omega
structure Good (p : Q01) (s : KSt) (a : Plc) : Prop where
 regs : a.regs.length = 10
 r64 : Q1q a.regs
 sat : Sat s a.regs
 words : a.words.length = Q0g p
 w64 : Q1q a.words
 past : a.past.length = Q0g p
 p64 : ∀ n, Q1q (a.past.getD n [])
theorem Good.mono {p : Q01} {s t : KSt} {a : Plc} (hs : Sok s) (ht : Sok t) (h : Good p s a) (k : Sle s t) : Good p t a := ⟨h.1, h.2, h.3.mono hs ht k, h.4, h.5, h.6, h.7⟩
theorem Good.goTo {p : Q01} {s : KSt} {a : Plc} (h : Good p s a) (k : Nat) : Good p s { a with at_ := k } := ⟨h.1, h.2, h.3, h.4, h.5, h.6, h.7⟩
theorem Qez (r : List Int) (i : LIns) (P : List Int → Prop) (h1 : i.op = 1 → P (rset r i.a i.n)) (h2 : i.op = 2 → P (rset r i.a (rg r i.b))) (h10 : i.op = 10 → P (rset r i.a (wrap64 (rg r i.b + i.n))))
  (h11 : i.op = 11 → (rg r i.a < 0 ∨ i.n ≤ rg r i.a → P (rset r i.a 0)) ∧ (0 ≤ rg r i.a ∧ rg r i.a < i.n → P r)) (h12 : i.op = 12 → P r)
  (ho : i.op ≠ 1 → i.op ≠ 2 → i.op ≠ 10 → i.op ≠ 11 → i.op ≠ 12 → P (rset r i.a (nop (i.op - 20) (rg r i.b) (rg r i.c)))) : P (Q1f r i) := by
 unfold Q1f
 by_cases e1 : i.op = 1
 ·rw [if_pos e1]; exact h1 e1
 rw [if_neg e1]
 by_cases e2 : i.op = 2
 ·rw [if_pos e2]; exact h2 e2
 rw [if_neg e2]
 by_cases e10 : i.op = 10
 ·rw [if_pos e10]; exact h10 e10
 rw [if_neg e10]
 by_cases e11 : i.op = 11
 ·rw [if_pos e11]
  split
  ·rename_i h; exact (h11 e11).1 h
  ·rename_i h; exact (h11 e11).2 (by omega)
 rw [if_neg e11]
 by_cases e12 : i.op = 12
 ·rw [if_pos e12]; exact h12 e12
 rw [if_neg e12]
 exact ho e1 e2 e10 e11 e12
theorem Q5n (r : List Int) (a v : Int) : (rset r a v).length = r.length := by simp [rset]
theorem Q1q.rset {r : List Int} (h : Q1q r) (a : Int) {v : Int} (hv : R64 v) : Q1q (rset r a v) := h.set _ hv
theorem Qsa {r : List Int} {i : LIns} (h : Q1q r) (hn : R64 i.n) : Q1q (Q1f r i) :=
 Qez r i Q1q (fun _ => h.rset _ hn) (fun _ => h.rset _ (h _)) (fun _ => h.rset _ (Qbg _)) (fun _ => ⟨fun _ => h.rset _ Q7l, fun _ => h⟩) (fun _ => h) (fun _ _ _ _ _ => h.rset _ (Qme (h _)))
theorem Q9p (r : List Int) (i : LIns) : (Q1f r i).length = r.length :=
 Qez r i (fun r' => r'.length = r.length) (fun _ => Q5n _ _ _) (fun _ => Q5n _ _ _) (fun _ => Q5n _ _ _) (fun _ => ⟨fun _ => Q5n _ _ _, fun _ => rfl⟩) (fun _ => rfl) (fun _ _ _ _ _ => Q5n _ _ _)
theorem Q2t {p : Q01} {R : Int} {i : LIns} (h : Q00 p R i = true) :
  (i.op = 1 → okIn R i.a = true) ∧ (i.op = 2 → okIn R i.a = true ∧ okIn R i.b = true) ∧ (i.op = 10 → okIn R i.a = true ∧ okIn R i.b = true) ∧ (i.op = 3 ∨ i.op = 4 → okIn R i.a = true ∧ okIn R i.b = true) ∧
   (i.op = 5 ∨ i.op = 6 → okIn R i.a = true) ∧ (i.op = 8 → okIn R i.a = true ∧ okIn R i.b = true ∧ 1 ≤ i.c ∧ i.c ≤ 4) ∧ (i.op = 9 → okIn R i.a = true) ∧ (i.op = 11 → okIn R i.a = true ∧ 1 ≤ i.n ∧ i.n ≤ 64) ∧
   (i.op ≠ 1 → i.op ≠ 2 → i.op ≠ 10 → i.op ≠ 3 → i.op ≠ 4 → i.op ≠ 5 → i.op ≠ 6 → i.op ≠ 7 → i.op ≠ 8 → i.op ≠ 9 → i.op ≠ 11 → i.op ≠ 12 → okIn R i.a = true ∧ okIn R i.b = true ∧ okIn R i.c = true ∧ 21 ≤ i.op ∧ i.op ≤ 30) ∧
   (i.op = 7 ∨ i.op = 8 → 0 ≤ i.n ∧ i.n.toNat < p.code.length) ∧ (1 ≤ i.op ∧ i.op ≤ 12 ∨ 21 ≤ i.op ∧ i.op ≤ 30) := by
 simp only [Q00] at h
 by_cases e1 : i.op = 1
 ·simp [e1, okIn] at h ⊢; omega
 by_cases e2 : i.op = 2
 ·simp [e2, okIn] at h ⊢; omega
 by_cases e10 : i.op = 10
 ·simp [e10, okIn] at h ⊢; omega
 by_cases e3 : i.op = 3 ∨ i.op = 4
 ·rcases e3 with e3 | e3 <;> simp [e3, okIn] at h ⊢ <;> omega
 by_cases e5 : i.op = 5 ∨ i.op = 6
 ·rcases e5 with e5 | e5 <;> simp [e5, okIn] at h ⊢ <;> omega
 by_cases e7 : i.op = 7
 ·simp [e7, okIn] at h ⊢; omega
 by_cases e8 : i.op = 8
 ·simp [e8, okIn] at h ⊢; omega
 by_cases e9 : i.op = 9
 ·simp [e9, okIn] at h ⊢; omega
 by_cases e11 : i.op = 11
 ·simp [e11, okIn] at h ⊢; omega
 by_cases e12 : i.op = 12
 ·simp [e12, okIn] at h ⊢
 rw [if_neg e1, if_neg e2, if_neg e10, if_neg e3, if_neg e5, if_neg e7, if_neg e8, if_neg e9, if_neg e11, if_neg e12] at h
 simp [okIn] at h
 simp [okIn]
 omega
def Qbm (r : List Int) (i : LIns) : Int :=
 if i.op = 1 then i.n else if i.op = 2 then rg r i.b else if i.op = 10 then wrap64 (rg r i.b + i.n)
 else if i.op = 11 then (if rg r i.a < 0 ∨ i.n ≤ rg r i.a then 0 else rg r i.a) else nop (i.op - 20) (rg r i.b) (rg r i.c)
theorem Qks (r : List Int) (a : Int) : rset r a (rg r a) = r := by
 unfold rset rg
 apply List.ext_getElem?
 intro j
 rw [List.getElem?_set]
 by_cases h : a.toNat = j
 ·subst h
  by_cases h2 : a.toNat < r.length
  ·simp [h2]
  ·simp [h2]
 ·rw [if_neg h]
theorem Qey (r : List Int) (i : LIns) (h : i.op ≠ 12) : Q1f r i = rset r i.a (Qbm r i) := by
 unfold Q1f Qbm
 by_cases e1 : i.op = 1
 ·rw [if_pos e1, if_pos e1]
 rw [if_neg e1, if_neg e1]
 by_cases e2 : i.op = 2
 ·rw [if_pos e2, if_pos e2]
 rw [if_neg e2, if_neg e2]
 by_cases e10 : i.op = 10
 ·rw [if_pos e10, if_pos e10]
 rw [if_neg e10, if_neg e10]
 by_cases e11 : i.op = 11
 ·rw [if_pos e11, if_pos e11]
  split
  ·rfl
  ·exact (Qks r i.a).symm
 rw [if_neg e11, if_neg e11, if_neg h]
theorem Qbp {i : LIns} (h : Q2j i = false) : i.op ≠ 3 ∧ i.op ≠ 4 ∧ i.op ≠ 5 ∧ i.op ≠ 6 ∧ Q10 i = false ∧ Q18 i = false := by
 simp only [Q2j, Bool.or_eq_false_iff] at h
 have h2 := h
 simp [Q10, Q18] at h2
 exact ⟨by omega, by omega, by omega, by omega, h.1, h.2⟩
theorem Q7j (p : Q01) (a : Plc) {i : LIns} (hw : Q2j i = false) (h7 : i.op ≠ 7) (h8 : i.op ≠ 8) (h9 : i.op ≠ 9) : Q0o p i a = { a with at_ := a.at_ + 1, regs := Q1f a.regs i } := by
 obtain ⟨-, -, -, -, hp, ht⟩ := Qbp hw
 unfold Q0o
 rw [if_neg h7, if_neg h8, hp, ht]
 by_cases e12 : i.op = 12
 ·rw [if_pos (.inr e12)]
  simp [Q1f, e12]
 ·rw [if_neg (by omega)]
  simp
theorem Q9m (p : Q01) (a : Plc) {i : LIns} (h : Q18 i = true) : Q0o p i a = { a with at_ := a.at_ + 1, regs := rset a.regs i.a (if Q32 p i a then a.words.getD (Q1a p i a).toNat 0 else 0) } := by
 have hop : i.op = 3 ∨ i.op = 5 := by simpa [Q18] using h
 have hp : Q10 i = false := by simp [Q10]; omega
 unfold Q0o
 rw [if_neg (by omega), if_neg (by omega), if_neg (by omega), hp, h]
 simp
theorem Q8f (p : Q01) (a : Plc) {i : LIns} (h : Q10 i = true) (ht : Q32 p i a = true) : Q0o p i a = { a with at_ := a.at_ + 1, past := a.past.set (Q1a p i a).toNat (a.past.getD (Q1a p i a).toNat [] ++ [a.words.getD (Q1a p i a).toNat 0]), words := a.words.set (Q1a p i a).toNat (rg a.regs i.a) } := by
 have hop : i.op = 4 ∨ i.op = 6 := by simpa [Q10] using h
 unfold Q0o
 rw [if_neg (by omega), if_neg (by omega), if_neg (by omega), h, ht]
 simp
theorem Qe7 (p : Q01) (a : Plc) {i : LIns} (h : Q10 i = true) (ht : Q32 p i a = false) : Q0o p i a = { a with at_ := a.at_ + 1 } := by
 have hop : i.op = 4 ∨ i.op = 6 := by simpa [Q10] using h
 unfold Q0o
 rw [if_neg (by omega), if_neg (by omega), if_neg (by omega), h, ht]
 simp
theorem Qb7 (p : Q01) (a : Plc) {i : LIns} (h7 : i.op ≠ 7) (h8 : i.op ≠ 8) : (Q0o p i a).at_ = a.at_ + 1 := by
 unfold Q0o
 rw [if_neg h7, if_neg h8]
 repeat' split
 all_goals rfl
theorem Qe9 (p : Q01) (a : Plc) {i : LIns} (h8 : i.op = 8) : Q0o p i a = { a with at_ := if Q6g i.c (rg a.regs i.a) (rg a.regs i.b) then i.n.toNat else a.at_ + 1 } := by
 unfold Q0o
 rw [if_neg (by omega), if_pos h8]
theorem Qe8 (p : Q01) (a : Plc) {i : LIns} (h7 : i.op = 7) : Q0o p i a = { a with at_ := i.n.toNat } := by
 unfold Q0o
 rw [if_pos h7]
theorem Q9s (l : List (List Int)) (k : Nat) (x : List Int) (n : Nat) : (l.set k x).getD n [] = if n = k ∧ n < l.length then x else l.getD n [] := by
 rw [List.getD_eq_getElem?_getD, List.getElem?_set]
 by_cases e : k = n
 ·subst e
  by_cases h2 : k < l.length <;> simp [h2]
 ·rw [if_neg e, if_neg (by omega), ← List.getD_eq_getElem?_getD]
theorem Qja (l : List Int) (x : Int) (n : Nat) : (l ++ [x]).getD n 0 = if n = l.length then x else l.getD n 0 := by
 simp only [List.getD_eq_getElem?_getD, List.getElem?_append]
 by_cases h : n < l.length
 ·rw [if_pos h, if_neg (by omega)]
 ·rw [if_neg h]
  by_cases e : n = l.length
  ·subst e; simp
  ·rw [if_neg e, List.getElem?_eq_none (by simp; omega), List.getElem?_eq_none (by omega)]
theorem Q1q.snoc {l : List Int} (h : Q1q l) {x : Int} (hx : R64 x) : Q1q (l ++ [x]) := fun n => by
 rw [Qja]
 split
 ·exact hx
 ·exact h n
def EqP (s : KSt) (r t : List Int) : Prop := ∀ j, j < 8 → (s.getD j default).sec = false → r.getD j 0 = t.getD j 0
structure MemR (p : Q01) (a b : Plc) : Prop where
 pub : Pub p a.words b.words
 plen : ∀ n, (a.past.getD n []).length = (b.past.getD n []).length
 ppub : ∀ n, secW p n = false → a.past.getD n [] = b.past.getD n []
structure Pair (p : Q01) (s : KSt) (a b : Plc) : Prop where
 ga : Good p s a
 gb : Good p s b
 eq : EqP s a.regs b.regs
 mem : MemR p a b
theorem EqP.mono {s t : KSt} {r u : List Int} (h : EqP s r u) (k : Sle s t) : EqP t r u := fun j hj e => h j hj (by
 cases hs : (s.getD j default).sec
 ·rfl
 ·rw [(k j).2 hs] at e; cases e)
theorem EqP.set {s : KSt} {r u : List Int} (h : EqP s r u) (hl : s.length = 8) (hr : r.length = 10) (hu : u.length = 10) (a : Int) {k : LKn} {v w : Int} (hv : k.sec = false → v = w) : EqP (kset s a k) (rset r a v) (rset u a w) := fun j hj => by
 rw [Q62, hl]
 unfold rset
 rw [Q2o, Q2o, hr, hu]
 by_cases e : j = a.toNat
 ·rw [if_pos ⟨e, hj⟩, if_pos ⟨e, by omega⟩, if_pos ⟨e, by omega⟩]; exact hv
 ·rw [if_neg (by omega), if_neg (by omega), if_neg (by omega)]; exact h j hj
theorem EqP.at_ {s : KSt} {r u : List Int} (h : EqP s r u) {a : Int} (ha : okIn 8 a = true) (hs : (kg s a).sec = false) : rg r a = rg u a := by
 rw [Q05] at ha
 exact h a.toNat (by omega) hs
theorem Pair.mono {p : Q01} {s t : KSt} {a b : Plc} (hs : Sok s) (ht : Sok t) (h : Pair p s a b) (k : Sle s t) : Pair p t a b := ⟨h.ga.mono hs ht k, h.gb.mono hs ht k, h.eq.mono k, h.mem⟩
theorem Pair.goTo {p : Q01} {s : KSt} {a b : Plc} (h : Pair p s a b) (k l : Nat) : Pair p s { a with at_ := k } { b with at_ := l } := ⟨h.ga.goTo k, h.gb.goTo l, h.eq, ⟨h.mem.1, h.mem.2, h.mem.3⟩⟩
theorem Qb1 {p : Q01} {i : LIns} {a : Plc} (hp : Q02 p.regs = true) (hc : i.c.toNat < p.regs.length) (hin : Q2f p i (Q1g a.regs i) = true) : secW p (Q1a p i a).toNat = (Q08 p i).secret ∧ 0 ≤ Q1a p i a ∧ (Q1a p i a).toNat < Q0g p := by
 obtain ⟨h1, h2, h3, h4⟩ := Qqh hp hc hin
 unfold Q1a
 rw [h4, Int.toNat_natCast]
 refine ⟨?_, by omega, h2⟩
 simp only [Q2f, Bool.and_eq_true, decide_eq_true_eq] at hin
 unfold Q08 at hin ⊢
 exact Q9j p.regs i.c.toNat (Q1g a.regs i).toNat hc (by omega)
structure Q3z (p : Q01) (T : Tab) : Prop where
 may : Q1x p = true
 n64 : ∀ i ∈ p.code, R64 i.n
 post : Post p T
 none_ : (Q1u p T).1 = 0
theorem Qgo {p : Q01} {k : Nat} {i : LIns} (h : p.code[k]? = some i) : Q0d p k = i := by
 unfold Q0d
 rw [List.getD_eq_getElem?_getD, h]; rfl
theorem Qas {p : Q01} {T : Tab} (h : Tok p T) {k : Nat} {s : KSt} (hk : tg T k = some s) : k < p.code.length := by
 rcases Nat.lt_or_ge k p.code.length with h1 | h1
 ·exact h1
 ·unfold tg at hk
  rw [List.getD_eq_getElem?_getD, List.getElem?_eq_none (by rw [h.len]; omega)] at hk
  simp at hk
section
variable {p : Q01} {T : Tab} {k : Nat} {s : KSt} {i : LIns}
theorem Q3z.ins (h : Q3z p T) (hi : p.code[k]? = some i) : Q00 p 8 i = true ∧ R64 i.n := by
 have hm := List.mem_of_getElem? hi
 exact ⟨(Q3x h.may).2.2.2 i hm, h.n64 i hm⟩
theorem Q3z.faults (h : Q3z p T) (hk : tg T k = some s) (hi : p.code[k]? = some i) : Q17 p k s i = true ∧ Q0y p s i = true := by
 have := Qqv h.post.tok.len h.none_ k s hk
 rw [Qgo hi] at this
 exact this
theorem Q3z.led (h : Q3z p T) (hk : tg T k = some s) (hi : p.code[k]? = some i) {x : Nat × KSt} (hx : x ∈ Q0k p k s i) : x.1 < p.code.length → ∃ t, tg T x.1 = some t ∧ Sle x.2 t := by
 have := h.post.leads k s hk
 rw [Qgo hi] at this
 exact this x hx
theorem Q3z.inside (h : Q3z p T) (hk : tg T k = some s) (hi : p.code[k]? = some i) {r : List Int} (hs : Sat s r) (hw : Q2j i = true) : Q2f p i (Q1g r i) = true := by
 obtain ⟨hb, hq⟩ := h.faults hk hi
 obtain ⟨hok, hn⟩ := h.ins hi
 obtain ⟨g1, g2, g10, g3, g5, g8, g9, g11, go, g7, gop⟩ := Q2t hok
 have hregs := (Q3x h.may).1
 have hc := Q2p hok hw
 have hlog := Q55 hregs (Q08 p i) (by unfold Q08; simp [hc.2])
 have hop := Q86 hw
 by_cases e : i.op = 3 ∨ i.op = 4
 ·unfold Q17 at hb
  rw [if_neg (by omega), if_pos e] at hb
  simp only [Bool.and_eq_true, decide_eq_true_eq] at hb
  exact Qqi hs (g3 e).2 (h.post.tok.ok k s hk) e hb.1.2 hb.2 hlog.2
 ·have e5 : i.op = 5 ∨ i.op = 6 := by omega
  have : Q1g r i = i.n := by unfold Q1g; rw [if_pos e5]
  rw [this]
  simp only [Q00] at hok
  rw [if_neg (by omega), if_neg (by omega), if_neg (by omega), if_neg (by omega), if_pos e5] at hok
  simp only [okIn, Bool.and_eq_true, decide_eq_true_eq] at hok
  simp only [Q2f, Bool.and_eq_true, decide_eq_true_eq]
  unfold Q08
  exact hok.2
theorem Q3z.next (h : Q3z p T) (hk : tg T k = some s) (hi : p.code[k]? = some i) (h7 : i.op ≠ 7) (h9 : i.op ≠ 9) : k + 1 < p.code.length := by
 obtain ⟨hb, hq⟩ := h.faults hk hi
 have hlt := Qas h.post.tok hk
 have : Q24 p k = false := by
  unfold Q17 at hb
  rw [if_neg (by omega)] at hb
  split at hb
  ·simp only [Bool.and_eq_true] at hb; simpa using hb.1.1
  ·simpa using hb
 simp only [Q24, decide_eq_false_iff_not] at this
 omega
end
def PP (p : Q01) (T : Tab) (a b : Plc) : Prop := a.at_ = b.at_ ∧ ∃ s, tg T a.at_ = some s ∧ Pair p s a b
theorem PP.to {p : Q01} {T : Tab} (h : Q3z p T) {k : Nat} {s s' : KSt} {i : LIns} (hk : tg T k = some s) (hi : p.code[k]? = some i) {a b : Plc} {n : Nat} (hx : (n, s') ∈ Q0k p k s i) (hn : n < p.code.length) (hP : Pair p s' a b) (ha : a.at_ = n) (hb : b.at_ = n) : PP p T a b := by
 obtain ⟨t, ht, hl⟩ := h.led hk hi hx hn
 refine ⟨by rw [ha, hb], t, by rw [ha]; exact ht, hP.mono ?_ (h.post.tok.ok _ _ ht) hl⟩
 exact Q8r p k (h.post.tok.ok k s hk) i _ hx
abbrev Lab := Nat → Bool
def lb (L : Lab) (r : Int) : Bool := L r.toNat
def lset (L : Lab) (r : Int) (x : Bool) : Lab := fun j => if j = r.toNat then x else L j
def labT (p : Q01) (L : Lab) (i : LIns) : Lab :=
 if i.op = 1 then lset L i.a false
 else if i.op = 2 ∨ i.op = 10 then lset L i.a (lb L i.b)
 else if i.op = 3 ∨ i.op = 5 then lset L i.a (Q08 p i).secret
 else if i.op = 4 ∨ i.op = 6 ∨ i.op = 7 ∨ i.op = 8 ∨ i.op = 9 ∨ i.op = 11 ∨ i.op = 12 then L
 else lset L i.a (lb L i.b || lb L i.c)
def mkT (i : LIns) : Option (Int × Int) := if i.op = 11 then some (i.a, i.n) else none
def okT (p : Q01) (L : Lab) (mk : Option (Int × Int)) (i : LIns) : Prop :=
 (i.op = 3 ∨ i.op = 4 → lb L i.b = false ∧ i.n = 0 ∧ mk = some (i.b, ((Q0b (Q08 p i) : Nat) : Int))) ∧
  (i.op = 4 ∨ i.op = 6 → lb L i.a = true → (Q08 p i).secret = true) ∧ (i.op = 8 → lb L i.a = false ∧ lb L i.b = false) ∧ (i.op = 29 ∨ i.op = 30 → lb L i.b = false ∧ lb L i.c = false) ∧ (i.op = 9 → lb L i.a = false)
def Q3o (L M : Lab) : Prop := ∀ j, j < 10 → M j = false → L j = false
def Q33 (q : Nat) (i : LIns) : List Nat := if i.op = 7 then [i.n.toNat] else if i.op = 8 then [q + 1, i.n.toNat] else if i.op = 9 then [] else [q + 1]
structure Q6n (p : Q01) (Ann : Nat → Lab → Option (Int × Int) → Prop) : Prop where
 hard : Q3m p = true
 ok : ∀ q L mk i, Ann q L mk → p.code[q]? = some i → okT p L mk i
 next : ∀ q L mk i, Ann q L mk → p.code[q]? = some i → ∀ q' ∈ Q33 q i, q' < p.code.length → ∃ L' mk', Ann q' L' mk' ∧ Q3o (labT p L i) L' ∧ (mk' = none ∨ mk' = mkT i)
structure Base (p : Q01) (a b : Plc) : Prop where
 ra : a.regs.length = 10
 rb : b.regs.length = 10
 wa : a.words.length = Q0g p
 wb : b.words.length = Q0g p
 pa : a.past.length = Q0g p
 pb : b.past.length = Q0g p
 mem : MemR p a b
def EqL (L : Lab) (r t : List Int) : Prop := ∀ j, j < 10 → L j = false → r.getD j 0 = t.getD j 0
def MkOk (mk : Option (Int × Int)) (r : List Int) : Prop := ∀ x n, mk = some (x, n) → 0 ≤ rg r x ∧ rg r x < n
structure TPl (p : Q01) (Ann : Nat → Lab → Option (Int × Int) → Prop) (a b : Plc) : Prop where
 at_ : a.at_ = b.at_
 base : Base p a b
 lab : a.at_ < p.code.length → ∃ L mk, Ann a.at_ L mk ∧ EqL L a.regs b.regs ∧ MkOk mk a.regs ∧ MkOk mk b.regs
theorem EqL.mono {L M : Lab} {r t : List Int} (h : EqL L r t) (k : Q3o L M) : EqL M r t := fun j hj e => h j hj (k j hj e)
theorem EqL.set {L : Lab} {r t : List Int} (h : EqL L r t) (hr : r.length = 10) (ht : t.length = 10) (a : Int) {x : Bool} {v w : Int} (hv : x = false → v = w) : EqL (lset L a x) (rset r a v) (rset t a w) := fun j hj => by
 unfold lset rset
 rw [Q2o, Q2o, hr, ht]
 by_cases e : j = a.toNat
 ·rw [if_pos e, if_pos ⟨e, hj⟩, if_pos ⟨e, hj⟩]; exact hv
 ·rw [if_neg e, if_neg (by omega), if_neg (by omega)]; exact h j hj
theorem EqL.at_ {L : Lab} {r t : List Int} (h : EqL L r t) {a : Int} (ha : okIn 10 a = true) (hs : lb L a = false) : rg r a = rg t a := by
 rw [Q05] at ha
 exact h a.toNat (by omega) hs
theorem Base.goTo {p : Q01} {a b : Plc} (h : Base p a b) (k l : Nat) : Base p { a with at_ := k } { b with at_ := l } := ⟨h.1, h.2, h.3, h.4, h.5, h.6, ⟨h.mem.1, h.mem.2, h.mem.3⟩⟩
theorem Base.regs {p : Q01} {a b : Plc} (h : Base p a b) (k l : Nat) {r t : List Int} (hr : r.length = 10) (ht : t.length = 10) : Base p { a with at_ := k, regs := r } { b with at_ := l, regs := t } := ⟨hr, ht, h.3, h.4, h.5, h.6, ⟨h.mem.1, h.mem.2, h.mem.3⟩⟩
section
variable {p : Q01} {Ann : Nat → Lab → Option (Int × Int) → Prop}
theorem Q8p {L : Lab} {mk : Option (Int × Int)} {i : LIns} {r : List Int} (hp : Q02 p.regs = true) (hok : okT p L mk i) (hi : Q00 p 10 i = true) (hm : MkOk mk r) (hw : Q2j i = true) : Q2f p i (Q1g r i) = true := by
 have hc := (Q2p hi hw).2
 by_cases e : i.op = 3 ∨ i.op = 4
 ·obtain ⟨h1, h2, h3⟩ := hok.1 e
  have h4 := hm _ _ h3
  have hlog : (rg r i.b + i.n) = rg r i.b := by omega
  have hl := Q5k (Q08 p i) (Q55 hp (Q08 p i) (by unfold Q08; simp [hc])).2
  have : Q1g r i = wrap64 (rg r i.b) := by unfold Q1g; rw [if_neg (by omega), hlog]
  rw [this, Q5j h4.1 (by omega)]
  simp only [Q2f, Bool.and_eq_true, decide_eq_true_eq]
  exact h4
 ·have hop := Q86 hw
  have e5 : i.op = 5 ∨ i.op = 6 := by omega
  have : Q1g r i = i.n := by unfold Q1g; rw [if_pos e5]
  rw [this]
  simp only [Q00] at hi
  rw [if_neg (by omega), if_neg (by omega), if_neg (by omega), if_neg (by omega), if_pos e5] at hi
  simp only [okIn, Bool.and_eq_true, decide_eq_true_eq] at hi
  simp only [Q2f, Bool.and_eq_true, decide_eq_true_eq]
  unfold Q08
  exact hi.2
theorem Q9c {L : Lab} {mk : Option (Int × Int)} {i : LIns} {a b : Plc} (hok : okT p L mk i) (hi : Q00 p 10 i = true) (hB : Base p a b) (he : EqL L a.regs b.regs) (hw : Q2j i = true) : Q1g a.regs i = Q1g b.regs i ∧ Q1a p i a = Q1a p i b ∧ Q32 p i a = Q32 p i b := by
 obtain ⟨g1, g2, g10, g3, g5, g8, g9, g11, go, g7, gop⟩ := Q2t hi
 have e1 : Q1g a.regs i = Q1g b.regs i := by
  unfold Q1g
  by_cases e : i.op = 3 ∨ i.op = 4
  ·rw [if_neg (by omega), if_neg (by omega), he.at_ (g3 e).2 (hok.1 e).1]
  ·have hop := Q86 hw
   rw [if_pos (by omega), if_pos (by omega)]
 have e2 : Q1a p i a = Q1a p i b := by unfold Q1a; rw [e1]
 exact ⟨e1, e2, by unfold Q32; rw [e2, hB.wa, hB.wb]⟩
theorem Qdh {L : Lab} {mk : Option (Int × Int)} {i : LIns} {a b : Plc} (hok : okT p L mk i) (hi : Q00 p 10 i = true) (hB : Base p a b) (he : EqL L a.regs b.regs) : Q38 p i a = Q38 p i b ∧ Q4c p i a = Q4c p i b := by
 obtain ⟨g1, g2, g10, g3, g5, g8, g9, g11, go, g7, gop⟩ := Q2t hi
 cases hw : Q2j i
 ·obtain ⟨w3, w4, w5, w6, hp, ht⟩ := Qbp hw
  refine ⟨by simp [Q38, ht], ?_⟩
  unfold Q4c
  rw [hw]
  split
  ·rfl
  ·rename_i hc
   simp only [Bool.false_eq_true, if_false, Q2e]
   split
   ·rename_i h29
    have := go (by omega) (by omega) (by omega) w3 w4 w5 w6 (by omega) (by omega) (by omega) (by omega) (by omega)
    have hq' := hok.2.2.2.1 h29
    rw [he.at_ this.2.1 hq'.1, he.at_ this.2.2.1 hq'.2]
   ·rfl
 ·obtain ⟨e1, e2, e3⟩ := Q9c hok hi hB he hw
  refine ⟨by unfold Q38; rw [e3], ?_⟩
  unfold Q4c
  rw [e2, hw]
  split
  ·rfl
  ·rfl
theorem Qpb {L : Lab} {i : LIns} {r t : List Int} (hi : Q00 p 10 i = true) (hr : r.length = 10) (ht : t.length = 10) (he : EqL L r t) (hw : Q2j i = false) (h7 : i.op ≠ 7) (h8 : i.op ≠ 8) (h9 : i.op ≠ 9) : EqL (labT p L i) (Q1f r i) (Q1f t i) := by
 obtain ⟨g1, g2, g10, g3, g5, g8, g9, g11, go, g7, gop⟩ := Q2t hi
 obtain ⟨w3, w4, w5, w6, -, -⟩ := Qbp hw
 by_cases e12 : i.op = 12
 ·have : labT p L i = L := by
   unfold labT
   rw [if_neg (by omega), if_neg (by omega), if_neg (by omega), if_pos (by omega)]
  rw [this]
  unfold Q1f
  rw [if_neg (by omega), if_neg (by omega), if_neg (by omega), if_neg (by omega), if_pos e12, if_neg (by omega), if_neg (by omega), if_neg (by omega), if_neg (by omega), if_pos e12]
  exact he
 rw [Qey r i e12, Qey t i e12]
 unfold labT Qbm
 by_cases e1 : i.op = 1
 ·rw [if_pos e1, if_pos e1, if_pos e1]
  exact he.set hr ht _ fun _ => rfl
 rw [if_neg e1, if_neg e1, if_neg e1]
 by_cases e2 : i.op = 2
 ·rw [if_pos (.inl e2), if_pos e2, if_pos e2]
  exact he.set hr ht _ fun e => he.at_ (g2 e2).2 e
 by_cases e10 : i.op = 10
 ·rw [if_pos (.inr e10), if_neg e2, if_neg e2, if_pos e10, if_pos e10]
  exact he.set hr ht _ fun e => by rw [he.at_ (g10 e10).2 e]
 rw [if_neg (by omega), if_neg e2, if_neg e2, if_neg e10, if_neg e10, if_neg (by omega)]
 by_cases e11 : i.op = 11
 ·rw [if_pos (by omega), if_pos e11, if_pos e11]
  have : L = lset L i.a (lb L i.a) := by
   funext j
   unfold lset lb
   split
   ·rename_i e; rw [e]
   ·rfl
  rw [this]
  refine he.set hr ht _ fun e => ?_
  have ha : rg r i.a = rg t i.a := he.at_ (g11 e11).1 e
  rw [ha]
 rw [if_neg (by omega), if_neg e11, if_neg e11]
 have := go e1 e2 e10 w3 w4 w5 w6 h7 h8 h9 e11 e12
 refine he.set hr ht _ fun e => ?_
 simp only [Bool.or_eq_false_iff] at e
 rw [he.at_ this.2.1 e.1, he.at_ this.2.2.1 e.2]
theorem Qfg {i : LIns} {r : List Int} (hi : Q00 p 10 i = true) (hr : r.length = 10) (hw : Q2j i = false) : MkOk (mkT i) (Q1f r i) := by
 obtain ⟨g1, g2, g10, g3, g5, g8, g9, g11, go, g7, gop⟩ := Q2t hi
 intro x n h
 unfold mkT at h
 split at h
 ·rename_i e11
  simp only [Option.some.injEq, Prod.mk.injEq] at h
  obtain ⟨rfl, rfl⟩ := h
  have ha := Q05.1 (g11 e11).1
  unfold Q1f
  rw [if_neg (by omega), if_neg (by omega), if_neg (by omega), if_pos e11]
  split
  ·have : rg (rset r i.a 0) i.a = 0 := by
    unfold rg rset
    rw [Q2o, if_pos ⟨rfl, by omega⟩]
   rw [this]
   omega
  ·omega
 ·cases h
theorem Q8o (r : List Int) : MkOk none r := fun _ _ h => by cases h
theorem Q6p (T : Q6n p Ann) {a : Plc} {L : Lab} {mk : Option (Int × Int)} {i : LIns} (hA : Ann a.at_ L mk) (hi : p.code[a.at_]? = some i) {x y : Plc} (hxy : x.at_ = y.at_) (hB : Base p x y) (hs : x.at_ ∈ Q33 a.at_ i) (he : EqL (labT p L i) x.regs y.regs) (hm : MkOk (mkT i) x.regs ∧ MkOk (mkT i) y.regs) : TPl p Ann x y := by
 refine ⟨hxy, hB, fun hl => ?_⟩
 obtain ⟨L', mk', h1, h2, h3⟩ := T.next _ L mk i hA hi _ hs hl
 refine ⟨L', mk', h1, he.mono h2, ?_, ?_⟩
 ·rcases h3 with rfl | rfl
  ·exact Q8o _
  ·exact hm.1
 ·rcases h3 with rfl | rfl
  ·exact Q8o _
  ·exact hm.2
theorem Q57 {i : LIns} (h : i.op ≠ 11) (r : List Int) : MkOk (mkT i) r := by
 unfold mkT
 rw [if_neg h]
 exact Q8o _
theorem Qim {L : Lab} {mk : Option (Int × Int)} {i : LIns} {a b : Plc} (hp : Q02 p.regs = true) (hok : okT p L mk i) (hi : Q00 p 10 i = true) (hB : Base p a b) (he : EqL L a.regs b.regs) (hm : MkOk mk a.regs) (hput : Q10 i = true) : Base p (Q0o p i a) (Q0o p i b) ∧ (Q0o p i a).regs = a.regs ∧ (Q0o p i b).regs = b.regs := by
 have hw : Q2j i = true := by simp [Q2j, hput]
 obtain ⟨g1, g2, g10, g3, g5, g8, g9, g11, go, g7, gop⟩ := Q2t hi
 have hop : i.op = 4 ∨ i.op = 6 := by simpa [Q10] using hput
 obtain ⟨e1, e2, e3⟩ := Q9c hok hi hB he hw
 have hc := (Q2p hi hw).2
 obtain ⟨s1, s2, s3⟩ := Qb1 hp hc (Q8p hp hok hi hm hw)
 cases ht : Q32 p i a
 ·rw [Qe7 p a hput ht, Qe7 p b hput (by rw [← e3]; exact ht)]
  exact ⟨hB.goTo _ _, rfl, rfl⟩
 ·rw [Q8f p a hput ht, Q8f p b hput (by rw [← e3]; exact ht), ← e2]
  have hA : secW p (Q1a p i a).toNat = false → rg a.regs i.a = rg b.regs i.a := fun e => by
   rw [s1] at e
   refine he.at_ ?_ ?_
   ·rcases hop with o | o
    ·exact (g3 (.inr o)).1
    ·exact g5 (.inr o)
   ·cases hl : lb L i.a
    ·rfl
    ·rw [hok.2.1 hop hl] at e; cases e
  refine ⟨⟨hB.ra, hB.rb, by simp [hB.wa], by simp [hB.wb], by simp [hB.pa], by simp [hB.pb], ⟨fun n e => ?_, fun n => ?_, fun n e => ?_⟩⟩, rfl, rfl⟩
  ·simp only
   rw [Q2o, Q2o, hB.wa, hB.wb]
   split
   ·rename_i hh; exact hA (by rw [← hh.1]; exact e)
   ·exact hB.mem.pub n e
  ·simp only
   rw [Q9s, Q9s, hB.pa, hB.pb]
   split
   ·rw [List.length_append, List.length_append, hB.mem.plen]; rfl
   ·exact hB.mem.plen n
  ·simp only
   rw [Q9s, Q9s, hB.pa, hB.pb]
   split
   ·rename_i hh
    rw [← hh.1, hB.mem.ppub n e, hB.mem.pub n e]
   ·exact hB.mem.ppub n e
theorem Q6h {L : Lab} {i : LIns} (h : i.op = 4 ∨ i.op = 6 ∨ i.op = 7 ∨ i.op = 8 ∨ i.op = 9 ∨ i.op = 11 ∨ i.op = 12) : labT p L i = L := by
 unfold labT
 rw [if_neg (by omega), if_neg (by omega), if_neg (by omega), if_pos h]
theorem Qg6 {L : Lab} {i : LIns} (h : Q18 i = true) : labT p L i = lset L i.a (Q08 p i).secret := by
 have hop : i.op = 3 ∨ i.op = 5 := by simpa [Q18] using h
 unfold labT
 rw [if_neg (by omega), if_neg (by omega), if_pos hop]
theorem Qdi (T : Q6n p Ann) {a b : Plc} {i : LIns} (h : TPl p Ann a b) (hi : p.code[a.at_]? = some i) (h9 : i.op ≠ 9) : TPl p Ann (Q0o p i a) (Q0o p i b) := by
 obtain ⟨p1, p2, p3, p4⟩ := Q5g T.hard
 have hlt : a.at_ < p.code.length := (List.getElem?_eq_some_iff.1 hi).1
 obtain ⟨L, mk, hA, he, m1, m2⟩ := h.lab hlt
 have hok := T.ok _ L mk i hA hi
 have hin := p4 i (List.mem_of_getElem? hi)
 obtain ⟨g1, g2, g10, g3, g5, g8, g9, g11, go, g7, gop⟩ := Q2t hin
 by_cases h7 : i.op = 7
 ·rw [Qe8 p a h7, Qe8 p b h7]
  exact Q6p T hA hi rfl (h.base.goTo _ _) (by simp [Q33, h7]) (by rw [Q6h (by omega)]; exact he) ⟨Q57 (by omega) _, Q57 (by omega) _⟩
 by_cases h8 : i.op = 8
 ·have hq := hok.2.2.1 h8
  rw [Qe9 p a h8, Qe9 p b h8, he.at_ (g8 h8).1 hq.1, he.at_ (g8 h8).2.1 hq.2]
  refine Q6p T hA hi (by simp only [h.at_]) (h.base.goTo _ _) ?_ (by rw [Q6h (by omega)]; exact he) ⟨Q57 (by omega) _, Q57 (by omega) _⟩
  unfold Q33
  rw [if_neg (by omega), if_pos h8]
  simp only []
  split <;> simp
 have hsucc : (Q0o p i a).at_ ∈ Q33 a.at_ i := by
  rw [Qb7 p a h7 h8]
  simp [Q33, h7, h8, h9]
 have hat : (Q0o p i a).at_ = (Q0o p i b).at_ := by rw [Qb7 p a h7 h8, Qb7 p b h7 h8, h.at_]
 cases hw : Q2j i
 ·refine Q6p T hA hi hat ?_ hsucc ?_ ?_
  ·rw [Q7j p a hw h7 h8 h9, Q7j p b hw h7 h8 h9]
   exact h.base.regs _ _ (by rw [Q9p]; exact h.base.ra) (by rw [Q9p]; exact h.base.rb)
  ·rw [Q7j p a hw h7 h8 h9, Q7j p b hw h7 h8 h9]
   exact Qpb hin h.base.ra h.base.rb he hw h7 h8 h9
  ·rw [Q7j p a hw h7 h8 h9, Q7j p b hw h7 h8 h9]
   exact ⟨Qfg hin h.base.ra hw, Qfg hin h.base.rb hw⟩
 ·have hop := Q86 hw
  cases hput : Q10 i
  ·have ht : Q18 i = true := by simpa [Q2j, hput] using hw
   obtain ⟨e1, e2, e3⟩ := Q9c hok hin h.base he hw
   have hc := (Q2p hin hw).2
   obtain ⟨s1, s2, s3⟩ := Qb1 p1 hc (Q8p p1 hok hin m1 hw)
   refine Q6p T hA hi hat ?_ hsucc ?_ ⟨Q57 (by omega) _, Q57 (by omega) _⟩
   ·rw [Q9m p a ht, Q9m p b ht]
    exact h.base.regs _ _ (by rw [Q5n]; exact h.base.ra) (by rw [Q5n]; exact h.base.rb)
   ·rw [Q9m p a ht, Q9m p b ht, Qg6 ht, ← e2, ← e3]
    refine he.set h.base.ra h.base.rb _ fun e => ?_
    split
    ·exact h.base.mem.pub _ (by rw [s1]; exact e)
    ·rfl
  ·obtain ⟨b1, b2, b3⟩ := Qim p1 hok hin h.base he m1 hput
   have hop4 : i.op = 4 ∨ i.op = 6 := by simpa [Q10] using hput
   exact Q6p T hA hi hat b1 hsucc (by rw [b2, b3, Q6h (by omega)]; exact he) ⟨Q57 (by omega) _, Q57 (by omega) _⟩
theorem Qij (T : Q6n p Ann) {a b : Plc} {i : LIns} (h : TPl p Ann a b) (hi : p.code[a.at_]? = some i) (c : Int) : (Q27 p i a c = none ∧ Q27 p i b c = none) ∨ ∃ x y, Q27 p i a c = some x ∧ Q27 p i b c = some y ∧ TPl p Ann x y := by
 obtain ⟨p1, p2, p3, p4⟩ := Q5g T.hard
 have hlt : a.at_ < p.code.length := (List.getElem?_eq_some_iff.1 hi).1
 obtain ⟨L, mk, hA, he, m1, m2⟩ := h.lab hlt
 have hok := T.ok _ L mk i hA hi
 have hin := p4 i (List.mem_of_getElem? hi)
 obtain ⟨g1, g2, g10, g3, g5, g8, g9, g11, go, g7, gop⟩ := Q2t hin
 by_cases h8 : i.op = 8
 ·have hq := hok.2.2.1 h8
  unfold Q27
  rw [if_pos h8, if_pos h8]
  by_cases hc : c = 0
  ·rw [if_pos hc, if_pos hc]; exact .inl ⟨rfl, rfl⟩
  ·rw [if_neg hc, if_neg hc, he.at_ (g8 h8).1 hq.1, he.at_ (g8 h8).2.1 hq.2]
   refine .inr ⟨_, _, rfl, rfl, Q6p T hA hi (by simp only [h.at_]) (h.base.goTo _ _) ?_ (by rw [Q6h (by omega)]; exact he) ⟨Q57 (by omega) _, Q57 (by omega) _⟩⟩
   unfold Q33
   rw [if_neg (by omega), if_pos h8]
   simp only []
   split <;> simp
 cases ht : Q18 i
 ·unfold Q27
  rw [if_neg h8, if_neg h8, ht]
  exact .inl ⟨rfl, rfl⟩
 have hw : Q2j i = true := by simp [Q2j, ht]
 have hop : i.op = 3 ∨ i.op = 5 := by simpa [Q18] using ht
 obtain ⟨e1, e2, e3⟩ := Q9c hok hin h.base he hw
 have hc := (Q2p hin hw).2
 obtain ⟨s1, s2, s3⟩ := Qb1 p1 hc (Q8p p1 hok hin m1 hw)
 have hl := h.base.mem.plen (Q1a p i a).toNat
 have wa : Q27 p i a c = if 0 < c ∧ c ≤ (a.past.getD (Q1a p i a).toNat []).length ∧ Q32 p i a = true then
   some { a with at_ := a.at_ + 1, regs := rset (rset a.regs i.a (a.words.getD (Q1a p i a).toNat 0)) i.a ((a.past.getD (Q1a p i a).toNat []).getD ((a.past.getD (Q1a p i a).toNat []).length - c.toNat) 0) } else none := by
  unfold Q27
  rw [if_neg (by omega), ht]
  cases Q32 p i a
  ·rw [if_neg (by simp), if_neg (by simp)]
  ·rw [if_pos (by simp)]
   by_cases hcc : 0 < c ∧ c ≤ (a.past.getD (Q1a p i a).toNat []).length
   ·rw [if_pos hcc, if_pos ⟨hcc.1, hcc.2, rfl⟩]
   ·rw [if_neg hcc, if_neg (by rintro ⟨q1, q2, -⟩; exact hcc ⟨q1, q2⟩)]
 have wb : Q27 p i b c = if 0 < c ∧ c ≤ (a.past.getD (Q1a p i a).toNat []).length ∧ Q32 p i a = true then
   some { b with at_ := b.at_ + 1, regs := rset (rset b.regs i.a (b.words.getD (Q1a p i a).toNat 0)) i.a ((b.past.getD (Q1a p i a).toNat []).getD ((a.past.getD (Q1a p i a).toNat []).length - c.toNat) 0) } else none := by
  unfold Q27
  rw [if_neg (by omega), ht, ← e2, ← e3, ← hl]
  cases Q32 p i a
  ·rw [if_neg (by simp), if_neg (by simp)]
  ·rw [if_pos (by simp)]
   by_cases hcc : 0 < c ∧ c ≤ (a.past.getD (Q1a p i a).toNat []).length
   ·rw [if_pos hcc, if_pos ⟨hcc.1, hcc.2, rfl⟩]
   ·rw [if_neg hcc, if_neg (by rintro ⟨q1, q2, -⟩; exact hcc ⟨q1, q2⟩)]
 by_cases hcc : 0 < c ∧ c ≤ (a.past.getD (Q1a p i a).toNat []).length ∧ Q32 p i a = true
 ·rw [if_pos hcc] at wa wb
  have e : ∀ (r : List Int) (u v : Int), rset (rset r i.a u) i.a v = rset r i.a v := fun r u v => by simp [rset]
  rw [e] at wa wb
  refine .inr ⟨_, _, wa, wb, Q6p T hA hi (by simp [h.at_]) (h.base.regs _ _ (by rw [Q5n]; exact h.base.ra) (by rw [Q5n]; exact h.base.rb)) (by simp [Q33]; rw [if_neg (by omega), if_neg (by omega), if_neg (by omega)]; simp) ?_ ⟨Q57 (by omega) _, Q57 (by omega) _⟩⟩
  rw [Qg6 ht]
  refine he.set h.base.ra h.base.rb _ fun es => ?_
  rw [h.base.mem.ppub _ (by rw [s1]; exact es)]
 ·rw [if_neg hcc] at wa wb
  exact .inl ⟨wa, wb⟩
theorem Qdg (T : Q6n p Ann) (C : Int → Prop) : Sys p C (TPl p Ann) (TPl p Ann) (Pub p) := by
 obtain ⟨p1, p2, p3, p4⟩ := Q5g T.hard
 refine ⟨fun a b h => h.at_, fun _ _ h => h, fun a b h => h.base.mem.pub, ?_, ?_, fun a b i c h hi _ => Qij T h hi c, fun a b i h hi h9 _ => Qdi T h hi h9, fun a b i h hi h9 => Qdi T h hi h9, ?_, ?_⟩
 ·intro a b i h hi
  have hlt : a.at_ < p.code.length := (List.getElem?_eq_some_iff.1 hi).1
  obtain ⟨L, mk, hA, he, m1, m2⟩ := h.lab hlt
  exact (Qdh (T.ok _ L mk i hA hi) (p4 i (List.mem_of_getElem? hi)) h.base he).1
 ·intro a b i h hi
  have hlt : a.at_ < p.code.length := (List.getElem?_eq_some_iff.1 hi).1
  obtain ⟨L, mk, hA, he, m1, m2⟩ := h.lab hlt
  exact (Qdh (T.ok _ L mk i hA hi) (p4 i (List.mem_of_getElem? hi)) h.base he).2
 ·intro a b i h hi hw
  have hlt : a.at_ < p.code.length := (List.getElem?_eq_some_iff.1 hi).1
  obtain ⟨L, mk, hA, he, m1, m2⟩ := h.lab hlt
  have hok := T.ok _ L mk i hA hi
  exact ⟨Q8p p1 hok (p4 i (List.mem_of_getElem? hi)) m1 hw, Q8p p1 hok (p4 i (List.mem_of_getElem? hi)) m2 hw⟩
 ·intro a b i h hi h9
  have hlt : a.at_ < p.code.length := (List.getElem?_eq_some_iff.1 hi).1
  obtain ⟨L, mk, hA, he, m1, m2⟩ := h.lab hlt
  obtain ⟨g1, g2, g10, g3, g5, g8, g9, g11, go, g7, gop⟩ := Q2t (p4 i (List.mem_of_getElem? hi))
  exact he.at_ (g9 h9) ((T.ok _ L mk i hA hi).2.2.2.2 h9)
theorem Qik (T : Q6n p Ann) (C : Int → Prop) (hC : C 0) {ws wt script : List Int} (hs : ∀ c ∈ script, C c) (hl : ws.length = Q0g p) (hm : wt.length = Q0g p) (hp : Pub p ws wt) (h0 : ∃ L, Ann 0 L none) : SRel C (TPl p Ann) (TPl p Ann) (Pub p) (Q16 ws script) (Q16 wt script) := by
 obtain ⟨L, hL⟩ := h0
 refine ⟨rfl, rfl, rfl, rfl, rfl, rfl, rfl, ⟨hC, hs⟩, fun _ _ => ⟨rfl, ⟨by simp [Q16], by simp [Q16], hl, hm, by simp [Q16, hl], by simp [Q16, hm], hp, fun n => by simp only [Q16]; rw [hl, hm], fun n _ => by simp only [Q16]; rw [hl, hm]⟩, fun _ => ⟨L, none, hL, fun _ _ _ => rfl, Q8o _, Q8o _⟩⟩, fun k => absurd rfl k, fun k => by simp [Q16] at k⟩
theorem Qil (T : Q6n p Ann) {ws wt : List Int} (script : List Int) (hl : ws.length = Q0g p) (hm : wt.length = Q0g p) (hp : Pub p ws wt) (h0 : ∃ L, Ann 0 L none) (k : Nat) :
  (runS p k (Q16 ws script)).seen = (runS p k (Q16 wt script)).seen ∧ (runS p k (Q16 ws script)).fin = (runS p k (Q16 wt script)).fin ∧ (runS p k (Q16 ws script)).value = (runS p k (Q16 wt script)).value ∧
   (runS p k (Q16 ws script)).steps = (runS p k (Q16 wt script)).steps ∧ Pub p (endS (runS p k (Q16 ws script))).pl.words (endS (runS p k (Q16 wt script))).pl.words :=
 Qbi (Qdg T fun _ => True) (Qe2 (Qdg T fun _ => True) k _ _ (Qik T (fun _ => True) trivial (fun _ _ => trivial) hl hm hp h0))
end
end Go.Proofs.Yteiknefajlocoaa
