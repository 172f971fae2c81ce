/- Laid together from: RunM. -/
import Derived.Test.YtkkekbnhndfhjaaDoorTextAgainB15
import Derived.Test.YtkkekbnhndfhjaaDoorTextAgainB5
import Derived.Test.YtkkekbnhndfhjaaDoorTextAgainB16

namespace Go.Proofs.YtkkekbnhndfhjaaDoor
open Go.RowKit
set_option linter.unusedVariables false
set_option linter.unusedSimpArgs false
theorem grown_below {B : Nat} {w0 w w' : World} {row : Option Nat} (h : Below B w0 w) (hg : w.grownBy w' row) (hB : B ≤ w.heap.size) (hr : ∀ k, row = some k → B ≤ k) : Below B w0 w' := Below.grown h hg hB hr
theorem own_grown {w w' : World} {base : Nat} {e : TypeId} {size n : Nat} {v : Value} {xs : List Value} {row : Option Nat} (h : w.ownsRow base e size v n xs) (hg : w.grownBy w' row) (hne : ∀ k, row = some k → v.ownBlock ≠ some k) : w'.ownsRow base e size v n xs := by
  refine h.kept hg ?_
  cases hr : row with
  | none => cases hv : v.ownBlock <;> simp
  | some k => exact .inr (hne k hr)
theorem own_ne2 {w : World} {B B' : Nat} {e e' : TypeId} {s s' n n' : Nat} {v v' : Value} {xs xs' : List Value} (h : w.ownsRow B e s v n xs) (h' : w.ownsRow B' e' s' v' n' xs') (hne : e ≠ e') : ∀ k, v.ownBlock = some k → v'.ownBlock ≠ some k := by
  intro k hk hk'
  rcases h.2 with ⟨rfl, _⟩ | ⟨g, c, cur, rfl, _, a2, _⟩
  · cases hk
  rcases h'.2 with ⟨rfl, _⟩ | ⟨g', c', cur', rfl, _, b2, _⟩
  · cases hk'
  have e1 : g = k := by simpa [Value.ownBlock] using hk
  have e2 : g' = k := by simpa [Value.ownBlock] using hk'
  subst e1; subst e2
  rw [a2] at b2
  simp only [Option.some.injEq, Obj.cells.injEq, and_true] at b2
  exact hne b2.2
theorem own_base {w : World} {base : Nat} {e : TypeId} {c n : Nat} {v : Value} {xs : List Value} (h : w.ownsRow base e c v n xs) : ∀ k, v.ownBlock = some k → base ≤ k := fun k hk => (h.lt k hk).1
end Go.Proofs.YtkkekbnhndfhjaaDoor
