/- Laid together from: RunM. -/
import Derived.Test.YteiknefajlocoaaLoadQuietB12
import Derived.Test.YteiknefajlocoaaLoadQuietB5
import Derived.Test.YteiknefajlocoaaLoadQuietB13

namespace Go.Proofs.Yteiknefajlocoaa
open Go.RowKit
set_option linter.unusedVariables false
set_option linter.unusedSimpArgs false
theorem Qa9 {w w1 w2 : World} {row : Option Nat} (h : w.grownBy w1 row) (k : w1.grownBy w2 row) : w.grownBy w2 row :=
 ⟨k.os.trans h.os, k.tape.trans h.tape, k.output.trans h.output, Nat.le_trans h.size k.size, fun j hj hne => (k.block j (Nat.lt_of_lt_of_le hj h.size) hne).trans (h.block j hj hne)⟩
theorem Q81 {w w' : World} (h : Ext w w') (row : Option Nat) : w.grownBy w' row :=
 ⟨h.os, h.tape, h.output, h.size, fun j hj _ => Below.block h j hj⟩
theorem Q8e (w : World) (p : Addr) (u : Value) : w.grownBy (w.setCell p u) (some p.block) :=
 ⟨rfl, rfl, rfl, by simp [World.setCell], fun j hj hne => Below.heap_setCell w p u j (by intro e; exact hne (by rw [e]))⟩
theorem Q4q {B : Nat} {w0 w w' : World} {row : Option Nat} (h : Below B w0 w) (hg : w.grownBy w' row) (hB : B ≤ w.heap.size) (hr : ∀ k, row = some k → B ≤ k) : Below B w0 w' := Below.grown h hg hB hr
theorem Q22 {w w' : World} {base : Nat} {e : TypeId} {size n : Nat} {v : Value} {xs : List Value} {row : Option Nat} (h : w.ownsRow base e size v n xs) (hg : w.grownBy w' row) (hne : ∀ k, row = some k → v.ownBlock ≠ some k) : w'.ownsRow base e size v n xs := by
 refine h.kept hg ?_
 cases hr : row with
 | none => cases hv : v.ownBlock <;> simp
 | some k => exact .inr (hne k hr)
def regV (l : List Int) : Array Value := (l.map (Value.int .i64)).toArray
theorem Qeg (l : List Int) : (regV l).size = l.length := by simp [regV]
theorem Qli {l : List Int} {a : Int} (h : a.toNat < l.length) : (regV l)[a.toNat]? = some (.int .i64 (rg l a)) := by
 simp [regV, rg, h]
theorem Qlh (l : List Int) (a v : Int) : (regV l).setIfInBounds a.toNat (.int .i64 v) = regV (rset l a v) := by
 unfold regV rset
 apply Array.ext_getElem?
 intro j
 simp [Array.getElem?_setIfInBounds, List.getElem?_set]
theorem rg64 {l : List Int} (h : Q1q l) (a : Int) : R64 (rg l a) := h _
def Q3q (s : LSee) : Nat → Value
 | 0 => .int .i64 s.kind
 | 1 => .int .i64 s.a
 | _ => .int .i64 s.b
def Q4z (s : LSee) : List Value := [.int .i64 s.kind, .int .i64 s.a, .int .i64 s.b]
theorem Qk5 (s : LSee) (j : Nat) (hj : j < 3) : (Q4z s)[j]? = some (Q3q s j) := by
 rcases (show j = 0 ∨ j = 1 ∨ j = 2 by omega) with rfl | rfl | rfl <;> rfl
def Q7e (w : World) (v : Value) (l : List LSee) : Prop :=
 ∃ oa cap b o, v = .slice oa l.length cap ∧ l.length ≤ cap ∧ cap ≤ maxLen ∧ Rows w oa b o l.length 3 fun i => Q3q (l.getD i default)
theorem Q7e.ext {w w' : World} {v : Value} {l : List LSee} (h : Q7e w v l) (hx : Ext w w') : Q7e w' v l := by
 obtain ⟨oa, cap, b, o, h1, h2, h3, h4⟩ := h
 exact ⟨oa, cap, b, o, h1, h2, h3, h4.ext hx⟩
theorem Qk3 {w : World} {base : Nat} {e : TypeId} {v : Value} {l : List LSee} (h : w.ownsRow base e 3 v l.length (l.flatMap Q4z)) : Q7e w v l := by
 obtain ⟨oa, cap, b, h1, h2, h3, h4, -⟩ := Q71 (c := 3) (f := Q4z) (g := Q3q) (by omega) (fun _ => rfl) Qk5 h
 exact ⟨oa, cap, b, 0, h1, h2, h3, h4⟩
theorem Rows.see {w : World} {oa : Option Addr} {b o : Nat} {l : List LSee} (h : Rows w oa b o l.length 3 fun i => Q3q (l.getD i default)) (k : Nat) (hk : k < l.length) :
  w.cell? ⟨b, o + k * 3, none⟩ = some (.int .i64 (l.getD k default).kind) ∧ w.cell? ⟨b, o + k * 3 + 1, none⟩ = some (.int .i64 (l.getD k default).a) ∧ w.cell? ⟨b, o + k * 3 + 2, none⟩ = some (.int .i64 (l.getD k default).b) :=
 ⟨h.cell k 0 hk (by omega), h.cell k 1 hk (by omega), h.cell k 2 hk (by omega)⟩
theorem Qj7 (w : World) (size : Nat) : Src w size none 0 [] := ⟨by simp, fun _ => rfl, (fun ad h => by cases h), (fun u hu => by simp at hu)⟩
def Q66 (w : World) (v : Value) (fin value : Int) (steps : Nat) (seen : List LSee) (mem : List (List Int)) : Prop :=
 ∃ vs vm, v = .agg #[.int .i64 fin, .int .i64 value, .int .i64 steps, vs, vm] ∧ Q7e w vs seen ∧ Q4v w vm mem
theorem Q66.ext {w w' : World} {v : Value} {fin value : Int} {steps : Nat} {seen : List LSee} {mem : List (List Int)} (h : Q66 w v fin value steps seen mem) (hx : Ext w w') : Q66 w' v fin value steps seen mem := by
 obtain ⟨vs, vm, h1, h2, h3⟩ := h
 exact ⟨vs, vm, h1, h2.ext hx, h3.ext hx⟩
theorem Q1w {w : World} {B B' : Nat} {e e' : TypeId} {s s' n n' : Nat} {v v' : Value} {xs xs' : List Value} (h : w.ownsRow B e s v n xs) (h' : w.ownsRow B' e' s' v' n' xs') (hne : e ≠ e') : ∀ k, v.ownBlock = some k → v'.ownBlock ≠ some k := by
 intro k hk hk'
 rcases h.2 with ⟨rfl, _⟩ | ⟨g, c, cur, rfl, _, a2, _⟩
 ·cases hk
 rcases h'.2 with ⟨rfl, _⟩ | ⟨g', c', cur', rfl, _, b2, _⟩
 ·cases hk'
 have e1 : g = k := by simpa [Value.ownBlock] using hk
 have e2 : g' = k := by simpa [Value.ownBlock] using hk'
 subst e1; subst e2
 rw [a2] at b2
 simp only [Option.some.injEq, Obj.cells.injEq, and_true] at b2
 exact hne b2.2
theorem Q3r {w : World} {base : Nat} {e : TypeId} {c n : Nat} {v : Value} {xs : List Value} (h : w.ownsRow base e c v n xs) : ∀ k, v.ownBlock = some k → base ≤ k := fun k hk => (h.lt k hk).1
end Go.Proofs.Yteiknefajlocoaa
