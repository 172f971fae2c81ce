/- Laid together from: KOf. -/
import Derived.Test.YtiafchefbehfbaaGreatDoorDriveTellsB25
import Derived.Test.YtiafchefbehfbaaGreatDoorDriveTellsB4

namespace Go.Proofs.YtiafchefbehfbaaGreatDoor
open Go.ChangeShapes Go.WideShapes Go.ChangeAt Go.RowKit
set_option maxHeartbeats 1000000 in
theorem Qec (n:Int) (w:World) :
  Calls Tryz.prog 64 #[.int .i64 n] w fun e w'=>e=.returned (.agg #[.int .i64 (kof n),.bool false])∧Ext w w':=by
 have Hk:Hid (kof n=if n < 0∨65536≤n then (17:Int) else ((Lib.bitLen n.toNat:Nat):Int)):=rfl
 by_cases h0:n < 0
 ·go_enter Tryz.func64,Tryz.ntmps64
  go_wp2
  exact bodyPost_ret (v:=.agg #[.int .i64 17,.bool false]) (by simp [results,Tryz.results64,go_sem]) rfl ⟨Q6n (by rw [Hk.out,if_pos (.inl h0)]) rfl,(Ext.refl _).alloc _⟩
 by_cases h1:65536≤n
 ·go_enter Tryz.func64,Tryz.ntmps64
  go_wp2
  exact bodyPost_ret (v:=.agg #[.int .i64 17,.bool false]) (by simp [results,Tryz.results64,go_sem]) rfl ⟨Q6n (by rw [Hk.out,if_pos (.inr h1)]) rfl,(Ext.refl _).alloc _⟩
 have hu:IntKind.u64.wrap n=n:=IntWalk.u64_in n (by omega)
 go_enter Tryz.func64,Tryz.ntmps64
 go_wp2_with (go_at_call 93;refine (Tryz.bits_Len64 n _ (by omega) (by omega)).mono ?_;rintro e w' ⟨rfl,rfl⟩)
 exact bodyPost_ret (v:=.agg #[.int .i64 (Lib.bitLen n.toNat:Nat),.bool false]) (by simp [results,Tryz.results64,go_sem]) rfl ⟨Q6n (by rw [Hk.out,if_neg (by omega)]) rfl,(Ext.refl _).alloc _⟩
end Go.Proofs.YtiafchefbehfbaaGreatDoor
