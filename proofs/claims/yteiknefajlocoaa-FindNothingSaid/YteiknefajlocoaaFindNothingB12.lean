/- Laid together from: Ref1P. -/
import Derived.Test.YteiknefajlocoaaFindNothingB5
import Derived.Test.YteiknefajlocoaaFindNothingB7

namespace Go.Proofs.Yteiknefajlocoaa
open Go.RowKit
def tb (n:Int) (i:Nat):Bool:=decide (n / 2 ^ i % 2=1)
def mv (f:Nat→Bool) (s:Int) (i:Nat):Bool:=decide (0≤(i:Int) - s) && decide ((i:Int) - s < 64) && f ((i:Int) - s).toNat
theorem pow_pos' (k:Nat):(0:Int) < 2 ^ k:=Int.pow_pos (by omega)
def Q5t (a b:Int):Bool:=decide (u64 a < u64 b)
end Go.Proofs.Yteiknefajlocoaa
