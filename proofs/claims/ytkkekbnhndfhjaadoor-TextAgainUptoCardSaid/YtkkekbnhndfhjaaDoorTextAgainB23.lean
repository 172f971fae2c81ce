/- Laid together from: Tx2, Tx3, Tx4. -/
import Derived.Test.YtkkekbnhndfhjaaDoorTextAgainB19
import Derived.Test.YtkkekbnhndfhjaaDoorTextAgainB20

namespace Go.Proofs.YtkkekbnhndfhjaaDoor
open Go.ChangeShapes Go.WideShapes Go.ChangeAt Go.RowKit
set_option linter.unusedVariables false
set_option linter.unusedSimpArgs false
def opIs (op : Int) : Prop := (1 ≤ op ∧ op ≤ 12) ∨ (21 ≤ op ∧ op ≤ 30)
theorem txt_op {p : LProg} {R : Int} {i : LIns} (h : insOk p R i = true) : opIs i.op ∧ (i.op = 8 → 1 ≤ i.c ∧ i.c ≤ 4) := by
  unfold insOk at h
  unfold opIs
  by_cases h12 : 1 ≤ i.op ∧ i.op ≤ 12
  · refine ⟨.inl h12, fun h8 => ?_⟩
    rw [h8] at h
    simp [okIn] at h
    omega
  · refine ⟨.inr ?_, fun h8 => by omega⟩
    simp only at h
    rw [if_neg (by omega), if_neg (by omega), if_neg (by omega), if_neg (by omega), if_neg (by omega), if_neg (by omega), if_neg (by omega), if_neg (by omega), if_neg (by omega), if_neg (by omega)] at h
    simp [okIn] at h
    omega
theorem str_size (l : List UInt8) : (⟨l.toArray⟩ : ByteArray).size = l.length := by simp [ByteArray.size]
theorem str_index (l : List UInt8) (k : Nat) (x : UInt8) (h : l[k]? = some x) (w : World) : (Instr.index 9 (.string ⟨l.toArray⟩) (.int .i64 (k : Int))).run Tryd.prog w = .ok (.int .u8 (x.toNat : Int)) w := by
  obtain ⟨hk, rfl⟩ := List.getElem?_eq_some_iff.1 h
  rw [run_index_string w 9 ⟨l.toArray⟩ .i64 (k : Int) Tryd.underlying9, dif_pos ⟨by omega, by rw [str_size]; omega⟩]
  rfl
def Letter (x : UInt8) : Prop := x = 65 ∨ x = 66 ∨ x = 67 ∨ x = 68 ∨ x = 78
theorem follow_ok (op : Int) : (followT op).length ≤ 4 ∧ ∀ x ∈ followT op, Letter x := by
  unfold followT
  repeat' split
  all_goals
    refine ⟨by simp, fun x hx => ?_⟩
    first
      | (refine absurd hx ?_; simp; done)
      | (simp only [List.mem_cons, List.not_mem_nil, or_false] at hx; unfold Letter; rcases hx with h | h | h | h <;> simp [h])
      | (simp only [List.mem_cons, List.not_mem_nil, or_false] at hx; unfold Letter; rcases hx with h | h | h <;> simp [h])
      | (simp only [List.mem_cons, List.not_mem_nil, or_false] at hx; unfold Letter; rcases hx with h | h <;> simp [h])
      | (simp only [List.mem_cons, List.not_mem_nil, or_false] at hx; unfold Letter; simp [hx])
theorem word_len (op c : Int) : (wordT op c).length ≤ 5 := by
  unfold wordT
  repeat' split
  · generalize (op - 21).toNat = k
    match k with
    | 0 | 1 | 2 | 3 | 4 | 5 | 6 | 7 | 8 | 9 => simp [opsW]
    | k + 10 => simp [opsW]
  · generalize (c - 1).toNat = k
    match k with
    | 0 | 1 | 2 | 3 => simp [condsW]
    | k + 4 => simp [condsW]
  · generalize op.toNat = k
    match k with
    | 0 | 1 | 2 | 3 | 4 | 5 | 6 | 7 | 8 | 9 | 10 | 11 | 12 => simp [plainW]
    | k + 13 => simp [plainW]
theorem partT_len {i : LIns} (h : i.fits) (f : UInt8) : (partT i f).length ≤ 22 := by
  obtain ⟨h1, h2, h3, h4, h5⟩ := h
  have a := itoa_len h2
  have b := itoa_len h3
  have c := itoa_len h4
  have n := itoa_len h5
  unfold partT
  repeat' split
  all_goals (simp only [List.length_cons]; omega)
theorem parts_len {i : LIns} (h : i.fits) : ∀ (l : List UInt8), (l.flatMap (partT i)).length ≤ 22 * l.length
  | [] => by simp
  | x :: l => by
    have h1 := partT_len h x
    have h2 := parts_len h l
    rw [List.flatMap_cons, List.length_append, List.length_cons]
    omega
theorem line_len {i : LIns} (h : i.fits) : (lineT i).length ≤ 93 := by
  have h1 := word_len i.op i.c
  have h2 := parts_len h (followT i.op)
  have h3 := (follow_ok i.op).1
  unfold lineT
  rw [List.length_append]
  omega
end Go.Proofs.YtkkekbnhndfhjaaDoor
