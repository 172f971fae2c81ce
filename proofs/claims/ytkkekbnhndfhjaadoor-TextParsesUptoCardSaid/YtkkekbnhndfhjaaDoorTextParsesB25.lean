/- Laid together from: Tx2, Tx3, Tx4. -/
import Derived.Test.YtkkekbnhndfhjaaDoorTextParsesB19
import Derived.Test.YtkkekbnhndfhjaaDoorTextParsesB20
import Derived.Test.YtkkekbnhndfhjaaDoorTextParsesB22

namespace Go.Proofs.YtkkekbnhndfhjaaDoor
open Go.ChangeShapes Go.WideShapes Go.ChangeAt Go.RowKit
set_option linter.unusedVariables false
set_option linter.unusedSimpArgs false
def opIs (op : Int) : Prop := (1 ≤ op ∧ op ≤ 12) ∨ (21 ≤ op ∧ op ≤ 30)
set_option maxHeartbeats 8000000 in
theorem rWord_c (op c : Int) (ho : opIs op) (hc : op = 8 → 1 ≤ c ∧ c ≤ 4) (w : World) :
    Calls Tryd.prog 32 #[.int .i64 op, .int .i64 c] w fun e w' => e = .returned (str (wordT op c)) ∧ Ext w w' := by
  by_cases h8 : op = 8
  · obtain ⟨c0, c1⟩ := hc h8
    subst h8
    have : c = 1 ∨ c = 2 ∨ c = 3 ∨ c = 4 := by omega
    clear hc c0 c1 ho
    rcases this with rfl | rfl | rfl | rfl
    all_goals
      go_enter Tryd.func32, Tryd.ntmps32
      go_wp2
      go_ret
      exact ⟨rfl, (Ext.refl _).alloc _⟩
  · have : op = 1 ∨ op = 2 ∨ op = 3 ∨ op = 4 ∨ op = 5 ∨ op = 6 ∨ op = 7 ∨ op = 9 ∨ op = 10 ∨ op = 11 ∨ op = 12 ∨ op = 21 ∨ op = 22 ∨ op = 23 ∨ op = 24 ∨ op = 25 ∨ op = 26 ∨ op = 27 ∨ op = 28 ∨ op = 29 ∨ op = 30 := by unfold opIs at ho; omega
    clear hc ho h8
    rcases this with rfl | rfl | rfl | rfl | rfl | rfl | rfl | rfl | rfl | rfl | rfl | rfl | rfl | rfl | rfl | rfl | rfl | rfl | rfl | rfl | rfl
    all_goals
      go_enter Tryd.func32, Tryd.ntmps32
      go_wp2
      go_ret
      exact ⟨rfl, (Ext.refl _).alloc _⟩
set_option maxHeartbeats 8000000 in
theorem rFollows_c (op : Int) (ho : opIs op) (w : World) :
    Calls Tryd.prog 33 #[.int .i64 op] w fun e w' => e = .returned (str (followT op)) ∧ Ext w w' := by
  have : op = 1 ∨ op = 2 ∨ op = 3 ∨ op = 4 ∨ op = 5 ∨ op = 6 ∨ op = 7 ∨ op = 8 ∨ op = 9 ∨ op = 10 ∨ op = 11 ∨ op = 12 ∨ op = 21 ∨ op = 22 ∨ op = 23 ∨ op = 24 ∨ op = 25 ∨ op = 26 ∨ op = 27 ∨ op = 28 ∨ op = 29 ∨ op = 30 := by unfold opIs at ho; omega
  clear ho
  rcases this with rfl | rfl | rfl | rfl | rfl | rfl | rfl | rfl | rfl | rfl | rfl | rfl | rfl | rfl | rfl | rfl | rfl | rfl | rfl | rfl | rfl | rfl
  all_goals
    go_enter Tryd.func33, Tryd.ntmps33
    go_wp2
    go_ret
    exact ⟨rfl, Ext.refl _⟩
theorem str_size (l : List UInt8) : (⟨l.toArray⟩ : ByteArray).size = l.length := by simp [ByteArray.size]
theorem str_index (l : List UInt8) (k : Nat) (x : UInt8) (h : l[k]? = some x) (w : World) : (Instr.index 9 (.string ⟨l.toArray⟩) (.int .i64 (k : Int))).run Tryd.prog w = .ok (.int .u8 (x.toNat : Int)) w := by
  obtain ⟨hk, rfl⟩ := List.getElem?_eq_some_iff.1 h
  rw [run_index_string w 9 ⟨l.toArray⟩ .i64 (k : Int) Tryd.underlying9, dif_pos ⟨by omega, by rw [str_size]; omega⟩]
  rfl
def Letter (x : UInt8) : Prop := x = 65 ∨ x = 66 ∨ x = 67 ∨ x = 68 ∨ x = 78
theorem follow_ok (op : Int) : (followT op).length ≤ 4 ∧ ∀ x ∈ followT op, Letter x := by
  unfold followT
  repeat' split
  all_goals
    refine ⟨by simp, fun x hx => ?_⟩
    first
      | (refine absurd hx ?_; simp; done)
      | (simp only [List.mem_cons, List.not_mem_nil, or_false] at hx; unfold Letter; rcases hx with h | h | h | h <;> simp [h])
      | (simp only [List.mem_cons, List.not_mem_nil, or_false] at hx; unfold Letter; rcases hx with h | h | h <;> simp [h])
      | (simp only [List.mem_cons, List.not_mem_nil, or_false] at hx; unfold Letter; rcases hx with h | h <;> simp [h])
      | (simp only [List.mem_cons, List.not_mem_nil, or_false] at hx; unfold Letter; simp [hx])
end Go.Proofs.YtkkekbnhndfhjaaDoor
