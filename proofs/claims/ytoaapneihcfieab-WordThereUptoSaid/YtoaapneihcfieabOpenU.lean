/- Words and scripts opened; what the bound of an Upto statement gives of a slice's length. -/
import Derived.Test.YtoaapneihcfieabOpenP
import Derived.Test.YtoaapneihcfieabOwn
import Derived.Test.YtoaapneihcfieabRows
namespace Go.Proofs.Ytoaapneihcfieab
open Go.ChangeShapes Go.WideShapes Go.ChangeAt Go.RowKit Go.Joins Go.Deep
set_option linter.unusedVariables false
set_option linter.unusedSimpArgs false

section
variable {H : Type} {enc : TypeId × Value → H} {W : World} {base : Nat} {sp : Nat → Bool} {held : Bool}
theorem trod_u32s {n : Nat} {v : Value} {x : DataW H × List MemPlace} (h : DataW.trod enc Try.prog W base sp held n 23 [v] = some x) : ∃ l, U32sAt W v l := by
  rcases open_slice1 Try.underlying23 (by kernel_rfl) h with ⟨hv, -⟩ | ⟨a, len, cap, m, k, V, D, Pl, hv, -, h1, h2, h3, -, hi⟩
  · simp only [List.cons.injEq, and_true] at hv
    subst hv
    exact ⟨[], by simp, none, 0, 0, 0, rfl, by simp, by decide, rows_nil _ _⟩
  · simp only [List.cons.injEq, and_true] at hv
    subst hv
    obtain ⟨l, e1, e2, b, o, e3⟩ := rows_of (α := Int) (w := W) (a := a) (len := len) (c := 1) (p := fun x => 0 ≤ x ∧ x < 4294967296) (f := fun x _ => .int .u32 x) (by omega) (fun i hil => by
      obtain ⟨c0, t0⟩ := hi i (by rw [h3]; split <;> omega)
      obtain ⟨z0, q0, -, wf0⟩ := DataW.trod_int Try.underlying62 t0
      simp only [List.cons.injEq, and_true] at q0
      rw [q0] at c0
      have wb : 0 ≤ z0 ∧ z0 ≤ 4294967295 := by
        have := wf0
        simp [Lit.wf, IntKind.min, IntKind.max, IntKind.bits, IntKind.signed] at this
        omega
      refine ⟨z0, ⟨wb.1, by omega⟩, fun j hj => ?_⟩
      obtain rfl : j = 0 := by omega
      simpa using c0)
    subst e1
    exact ⟨l, e2, some a, cap, b, o, rfl, h1, h2, e3⟩
set_option maxRecDepth 100000 in
theorem open_u32s {b0 : Nat} {r : Reach} {v : Value} {d : DataW H} {p : List MemPlace}
    (hv : Value.okWide Try.prog W r b0 23 v) (h : DataW.Trod enc Try.prog W base sp held 23 v d p) : ∃ q, U32sAt W v q := by
  obtain ⟨fuel, hf⟩ := h
  obtain ⟨a, len, cap, rfl⟩ := okWide_slice Try.underlying23 hv
  exact trod_u32s hf
/-! what the bound gives -/
theorem bulk_pos (d : DataW H) : 1 ≤ Rows.uptoBulk d := by
  cases d with
  | lit l => cases l <;> simp [Rows.uptoBulk]
  | _ => simp [Rows.uptoBulk]
theorem bulk_len (l : List (DataW H)) : l.length ≤ Rows.uptoBulkAll l := by
  induction l with
  | nil => simp [Rows.uptoBulkAll]
  | cons d l ih =>
    have := bulk_pos d
    simp only [Rows.uptoBulkAll, List.length_cons]
    omega
theorem bulk_slice {t e : TypeId} {fuel : Nat} {oa : Option Addr} {n cap : Nat} {x : DataW H × List MemPlace} (ht : Try.prog.underlying t = some (.slice e)) (h : DataW.trod enc Try.prog W base sp held fuel t [.slice oa n cap] = some x) : n ≤ Rows.uptoBulk x.1 := by
  rcases open_slice ht h with ⟨hv, rfl⟩ | ⟨a, len, c, m, k, D, Pl, hv, -, h1, h2, h3, rfl, -⟩
  · simp only [List.cons.injEq, Value.slice.injEq, and_true] at hv
    obtain ⟨-, rfl, -⟩ := hv
    omega
  · simp only [List.cons.injEq, Value.slice.injEq, and_true] at hv
    obtain ⟨-, rfl, -⟩ := hv
    have := bulk_len ((List.range n).map D)
    simp only [List.length_map, List.length_range] at this
    simp only [Rows.uptoBulk]
    omega
theorem bulk_regs {v : Value} {d : DataW H} {p : List MemPlace} {l : List LReg} (h : DataW.Trod enc Try.prog W base sp held 22 v d p) (hl : RegsAt W v l) : l.length ≤ Rows.uptoBulk d := by
  obtain ⟨fuel, hf⟩ := h
  obtain ⟨-, oa, cap, b, o, rfl, -⟩ := hl
  exact bulk_slice Try.underlying22 hf
theorem bulk_u32s {v : Value} {d : DataW H} {p : List MemPlace} {l : List Int} (h : DataW.Trod enc Try.prog W base sp held 23 v d p) (hl : U32sAt W v l) : l.length ≤ Rows.uptoBulk d := by
  obtain ⟨fuel, hf⟩ := h
  obtain ⟨-, oa, cap, b, o, rfl, -⟩ := hl
  exact bulk_slice Try.underlying23 hf
end
end Go.Proofs.Ytoaapneihcfieab
