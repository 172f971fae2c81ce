/- The numbers of chapter 1 as plain functions over Int: what num.Op and num.Holds come to. No program in sight. -/
import Derived.WalkKit
import Derived.Laws.BitsAllLaws
import Derived.Laws.BitsLemmas
namespace Go.Proofs.Yteiknefajlocoaa
open Go.RowKit

/-- from 0 on -/
def u64 (n : Int) : Int := n % 18446744073709551616
/-- the lower six bits -/
def sh (b : Int) : Nat := (b % 64).toNat

def nop (op a b : Int) : Int :=
  if op = 1 then wrap64 (a + b) else if op = 2 then wrap64 (a - b) else if op = 3 then wrap64 (a * b)
  else if op = 4 then bits .and .i64 a b else if op = 5 then bits .or .i64 a b else if op = 6 then bits .xor .i64 a b
  else if op = 7 then wrap64 (u64 a * 2 ^ sh b) else if op = 8 then wrap64 (u64 a / 2 ^ sh b)
  else if op = 9 then (if u64 b = 0 then 0 else wrap64 (u64 a / u64 b))
  else if op = 10 then (if u64 b = 0 then a else wrap64 (u64 a % u64 b)) else 0

def nholds (c a b : Int) : Bool :=
  (c == 1 && a == b) || (c == 2 && a != b) || (c == 3 && decide (u64 a < u64 b)) || (c == 4 && !decide (u64 a < u64 b))

theorem i64_is (n : Int) : IntKind.i64.wrap n = wrap64 n := IntWalk.i64_left n
theorem u64_is (n : Int) : IntKind.u64.wrap n = u64 n := by rw [IntKind.wrap_u64]; rfl
theorem u64_nonneg (n : Int) : 0 ≤ u64 n := by unfold u64; omega
theorem u64_lt (n : Int) : u64 n < 18446744073709551616 := by unfold u64; omega
theorem sh_lt (b : Int) : sh b < 64 := by unfold sh; omega

theorem and63 (b : Int) : bits .and .u64 (IntKind.u64.wrap b) 63 = (sh b : Int) := by
  show IntKind.u64.wrap ((BitVec.ofInt 64 (IntKind.u64.wrap b) &&& BitVec.ofInt 64 63).toNat : Int) = _
  rw [BitVec.toNat_and, IntKind.wrap_u64, IntKind.wrap_u64]
  have h63 : (BitVec.ofInt 64 63).toNat = 2 ^ 6 - 1 := by decide
  rw [h63, Nat.and_two_pow_sub_one_eq_mod, BitVec.toNat_ofInt]
  unfold sh
  omega

theorem and63' (b : Int) : bits .and .u64 (u64 b) 63 = (sh b : Int) := by rw [← u64_is]; exact and63 b

theorem sh_min (b : Int) : min (sh b) 64 = sh b := Nat.min_eq_left (Nat.le_of_lt (sh_lt b))
theorem wrap64_u64 (x : Int) : wrap64 (IntKind.u64.wrap x) = wrap64 x := by rw [IntKind.wrap_u64]; unfold wrap64; omega
theorem u64_tdiv (a b : Int) : (u64 a).tdiv (u64 b) = u64 a / u64 b := Int.tdiv_eq_ediv_of_nonneg (u64_nonneg a)
theorem u64_tmod (a b : Int) : (u64 a).tmod (u64 b) = u64 a % u64 b := Int.tmod_eq_emod_of_nonneg (u64_nonneg a)
end Go.Proofs.Yteiknefajlocoaa
