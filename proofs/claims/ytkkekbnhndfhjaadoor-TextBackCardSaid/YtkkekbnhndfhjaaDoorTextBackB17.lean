/- Laid together from: OpenPh. -/
import Derived.Test.YtkkekbnhndfhjaaDoorProg
import Derived.Test.YtkkekbnhndfhjaaDoorTextBackB11
import Derived.Lib.SmallJoins
import Derived.Deep.Slices
import Derived.Deep.Fields
import Derived.ChangeSame

namespace Go.Proofs.YtkkekbnhndfhjaaDoor
open Go.ChangeShapes Go.WideShapes Go.ChangeAt Go.RowKit Go.Joins Go.Deep
set_option linter.unusedVariables false
set_option linter.unusedSimpArgs false
section
variable {H : Type} {enc : TypeId × Value → H} {P : Program} {w : World} {base : Nat} {spare : Nat → Bool} {held : Bool}
theorem open_slice_fields {t e : TypeId} {fs : Array Field} {fuel : Nat} {cs : List Value} {x : DataW H × List MemPlace} (ht : P.underlying t = some (.slice e)) (he : P.underlying e = some (.struct fs))
    (hone : oneCellFields P fs = true) (hC : P.cellsOf e = fs.size) (h : DataW.trod enc P w base spare held fuel t cs = some x) :
    (cs = [.slice none 0 0] ∧ x = (.nil, [])) ∨
    ∃ (a : Addr) (len cap m : Nat), cs = [.slice (some a) len cap] ∧ base ≤ a.block ∧ len ≤ cap ∧ cap ≤ maxLen ∧ len ≤ m ∧
      ∀ i, i < m → ∃ (ys : List (DataW H × List MemPlace)) (n : Nat), ys.length = fs.size ∧
        ∀ (j : Nat) (f : Field), fs[j]? = some f → ∃ (v : Value) (y : DataW H × List MemPlace), w.cell? (a.add (i * fs.size + j)) = some v ∧ ys[j]? = some y ∧ DataW.trod enc P w base spare held n f.type [v] = some y := by
  rcases open_slice ht h with h0 | ⟨a, len, cap, m, n, D, Pl, hcs, hb, hl, hm, hmm, hx, hi⟩
  · exact .inl h0
  · refine .inr ⟨a, len, cap, m, hcs, hb, hl, hm, by rw [hmm]; split <;> omega, fun i him => ?_⟩
    obtain ⟨cs', hc, ht'⟩ := hi i him
    rw [hC] at hc
    obtain ⟨ys, n', hn', hy, hlen, hyl, hf⟩ := DataW.trod_struct he ht'
    obtain ⟨_, hcl, hat⟩ := World.cells?_some hc
    refine ⟨ys, n', hyl, fun j f hj => ?_⟩
    obtain ⟨ho, hk⟩ := hone_of hone j f hj
    have hjl : j < fs.size := (Array.getElem?_eq_some_iff.1 hj).1
    have hcell := hat j hjl
    have hv : cs'[j]? = some (cs'[j]'(by omega)) := List.getElem?_eq_getElem (by omega)
    have h1 := hf j f hj
    rw [ho, hk] at h1
    have hone' : (cs'.drop j).take 1 = [cs'[j]'(by omega)] := by
      rw [List.drop_eq_getElem_cons (by omega)]
      rfl
    rw [hone'] at h1
    have hys : ys[j]? = some (ys[j]'(by omega)) := List.getElem?_eq_getElem (by omega)
    refine ⟨_, _, ?_, hys, h1.trans hys⟩
    rw [← Go.Deep.add_add, hcell, hv]
theorem spot_none {a : Addr} {v : Value} (h : w.cell? a = some v) : a = ⟨a.block, a.off, none⟩ := by
  obtain ⟨b, o, s⟩ := a
  cases s with
  | none => rfl
  | some s =>
    exfalso
    unfold World.cell? at h
    cases hb : w.heap[b]? with
    | none => rw [hb] at h; simp at h
    | some ob => rw [hb] at h; cases ob <;> simp at h
theorem add_none (b o n : Nat) : Addr.add ⟨b, o, none⟩ n = ⟨b, o + n, none⟩ := by
  unfold Addr.add
  split
  · subst_vars; rfl
  · rfl
theorem rows_of {α : Type} [Inhabited α] {a : Addr} {len c : Nat} {p : α → Prop} {f : α → Nat → Value} (hc : 0 < c) (h : ∀ i, i < len → ∃ x : α, p x ∧ ∀ j, j < c → w.cell? (a.add (i * c + j)) = some (f x j)) :
    ∃ l : List α, l.length = len ∧ (∀ x ∈ l, p x) ∧ ∃ b o, Rows w (some a) b o len c fun i => f (l.getD i default) := by
  obtain ⟨F, hF⟩ := choose_lt (p := fun i x => p x ∧ ∀ j, j < c → w.cell? (a.add (i * c + j)) = some (f x j)) h
  refine ⟨(List.range len).map F, by simp, fun x hx => ?_, a.block, a.off, ?_⟩
  · simp only [List.mem_map, List.mem_range] at hx
    obtain ⟨i, hi, rfl⟩ := hx
    exact (hF i hi).1
  · by_cases h0 : 0 < len
    · have hs := (hF 0 h0).2 0 hc
      have e0 : a.add (0 * c + 0) = a := by unfold Addr.add; simp
      rw [e0] at hs
      have ea := spot_none hs
      refine ⟨fun _ => by rw [← ea], fun i j hi hj => ?_⟩
      have := (hF i hi).2 j hj
      rw [ea, add_none] at this
      have eg : ((List.range len).map F).getD i default = F i := by simp [hi]
      rw [eg, ← this, Nat.add_assoc]
    · exact ⟨fun h => absurd h h0, fun i j hi hj => by omega⟩
theorem rows_nil (c : Nat) (f : Nat → Nat → Value) : Rows w none 0 0 0 c f := ⟨fun h => by omega, fun i j hi hj => by omega⟩
end
section
variable {H : Type} {enc : TypeId × Value → H} {W : World} {base : Nat} {sp : Nat → Bool} {held : Bool}
theorem r64_of {a : Int} (h : (Lit.int .i64 a).wf = true) : R64 a := bounds_i64 h
theorem trod_regs {n : Nat} {v : Value} {x : DataW H × List MemPlace} (h : DataW.trod enc Tryd.prog W base sp held n 22 [v] = some x) : ∃ l, RegsAt W v l := by
  rcases open_slice_fields Tryd.underlying22 Tryd.underlying43 (by kernel_rfl) (by kernel_rfl) h with ⟨hv, -⟩ | ⟨a, len, cap, m, hv, -, h1, h2, h3, hi⟩
  · simp only [List.cons.injEq, and_true] at hv
    subst hv
    exact ⟨[], by simp, none, 0, 0, 0, rfl, by simp, by decide, rows_nil _ _⟩
  · simp only [List.cons.injEq, and_true] at hv
    subst hv
    obtain ⟨l, e1, e2, b, o, e3⟩ := rows_of (α := LReg) (w := W) (a := a) (len := len) (c := 2) (p := fun r => R64 r.log) (f := regCell) (by omega) (fun i hil => by
      obtain ⟨ys, k, -, hf⟩ := hi i (by omega)
      obtain ⟨v0, y0, c0, -, t0⟩ := hf 0 _ rfl
      obtain ⟨v1, y1, c1, -, t1⟩ := hf 1 _ rfl
      obtain ⟨z0, q0, -, wf0⟩ := DataW.trod_int Tryd.underlying3 t0
      obtain ⟨z1, q1, -⟩ := DataW.trod_bool Tryd.underlying4 t1
      simp only [List.cons.injEq, and_true] at q0 q1
      subst q0 q1
      refine ⟨⟨z0, z1⟩, r64_of wf0, fun j hj => ?_⟩
      rcases (show j = 0 ∨ j = 1 by omega) with rfl | rfl
      · exact c0
      · exact c1)
    subst e1
    exact ⟨l, e2, some a, cap, b, o, rfl, h1, h2, e3⟩
theorem trod_code {n : Nat} {v : Value} {x : DataW H × List MemPlace} (h : DataW.trod enc Tryd.prog W base sp held n 23 [v] = some x) : ∃ l, CodeAt W v l := by
  rcases open_slice_fields Tryd.underlying23 Tryd.underlying46 (by kernel_rfl) (by kernel_rfl) h with ⟨hv, -⟩ | ⟨a, len, cap, m, hv, -, h1, h2, h3, hi⟩
  · simp only [List.cons.injEq, and_true] at hv
    subst hv
    exact ⟨[], by simp, none, 0, 0, 0, rfl, by simp, by decide, rows_nil _ _⟩
  · simp only [List.cons.injEq, and_true] at hv
    subst hv
    obtain ⟨l, e1, e2, b, o, e3⟩ := rows_of (α := LIns) (w := W) (a := a) (len := len) (c := 5) (p := LIns.fits) (f := insCell) (by omega) (fun i hil => by
      obtain ⟨ys, k, -, hf⟩ := hi i (by omega)
      obtain ⟨v0, y0, c0, -, t0⟩ := hf 0 _ rfl
      obtain ⟨v1, y1, c1, -, t1⟩ := hf 1 _ rfl
      obtain ⟨v2, y2, c2, -, t2⟩ := hf 2 _ rfl
      obtain ⟨v3, y3, c3, -, t3⟩ := hf 3 _ rfl
      obtain ⟨v4, y4, c4, -, t4⟩ := hf 4 _ rfl
      obtain ⟨z0, q0, -, wf0⟩ := DataW.trod_int Tryd.underlying3 t0
      obtain ⟨z1, q1, -, wf1⟩ := DataW.trod_int Tryd.underlying3 t1
      obtain ⟨z2, q2, -, wf2⟩ := DataW.trod_int Tryd.underlying3 t2
      obtain ⟨z3, q3, -, wf3⟩ := DataW.trod_int Tryd.underlying3 t3
      obtain ⟨z4, q4, -, wf4⟩ := DataW.trod_int Tryd.underlying2 t4
      simp only [List.cons.injEq, and_true] at q0 q1 q2 q3 q4
      subst q0 q1 q2 q3 q4
      refine ⟨⟨z0, z1, z2, z3, z4⟩, ⟨r64_of wf0, r64_of wf1, r64_of wf2, r64_of wf3, r64_of wf4⟩, fun j hj => ?_⟩
      rcases (show j = 0 ∨ j = 1 ∨ j = 2 ∨ j = 3 ∨ j = 4 by omega) with rfl | rfl | rfl | rfl | rfl
      · exact c0
      · exact c1
      · exact c2
      · exact c3
      · exact c4)
    subst e1
    exact ⟨l, e2, some a, cap, b, o, rfl, h1, h2, e3⟩
set_option maxRecDepth 100000 in
theorem open_prog {b0 : Nat} {r : Reach} {v : Value} {d : DataW H} {p : List MemPlace}
    (hv : Value.okWide Tryd.prog W r b0 25 v) (h : DataW.Trod enc Tryd.prog W base sp held 25 v d p) : ∃ q, ProgAt W v q := by
  obtain ⟨c0, c1, y0, y1, m, rfl, rfl, rfl, hy0, hy1⟩ := open_agg2 Tryd.underlying25 (by kernel_rfl) (by kernel_rfl) hv h
  obtain ⟨l, h0⟩ := trod_regs hy0
  obtain ⟨k, h1⟩ := trod_code hy1
  exact ⟨⟨l, k⟩, c0, c1, rfl, h0, h1⟩
end
end Go.Proofs.YtkkekbnhndfhjaaDoor
