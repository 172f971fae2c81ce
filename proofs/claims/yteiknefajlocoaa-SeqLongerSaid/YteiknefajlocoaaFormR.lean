/- Walks of the reference's shape and ins (chapter 2). -/
import Derived.Test.YteiknefajlocoaaForm4
namespace Go.Proofs.Yteiknefajlocoaa
open Go.ChangeShapes Go.WideShapes Go.ChangeAt Go.RowKit
set_option linter.unusedVariables false
set_option linter.unusedSimpArgs false

theorem blk_add {w w' : World} {g : Nat} {t : TypeId} {cs : Array Value} (h : Blk w g t cs) (hx : Ext w w') : Blk w' g t cs := h.ext hx

theorem shape_1 (w : World) : Calls Try.prog 129 #[.int .i64 1] w fun e w' => e = .returned (.tuple #[.slice (some ⟨w.heap.size, 0, none⟩) 3 3, .bool true, .bool true]) ∧ w' = w.alloc (.cells #[.int .i64 1, .int .i64 0, .int .i64 0] 3) := by
  go_enter Try.func129, Try.ntmps129
  go_wp2
  go_ret3
  exact ⟨rfl, rfl⟩
theorem shape_2 (w : World) : Calls Try.prog 129 #[.int .i64 2] w fun e w' => e = .returned (.tuple #[.slice (some ⟨w.heap.size, 0, none⟩) 3 3, .bool false, .bool true]) ∧ w' = w.alloc (.cells #[.int .i64 1, .int .i64 1, .int .i64 0] 3) := by
  go_enter Try.func129, Try.ntmps129
  go_wp2
  go_ret3
  exact ⟨rfl, rfl⟩
theorem shape_3 (w : World) : Calls Try.prog 129 #[.int .i64 3] w fun e w' => e = .returned (.tuple #[.slice (some ⟨w.heap.size, 0, none⟩) 3 3, .bool true, .bool true]) ∧ w' = w.alloc (.cells #[.int .i64 1, .int .i64 1, .int .i64 2] 3) := by
  go_enter Try.func129, Try.ntmps129
  go_wp2
  go_ret3
  exact ⟨rfl, rfl⟩
theorem shape_4 (w : World) : Calls Try.prog 129 #[.int .i64 4] w fun e w' => e = .returned (.tuple #[.slice (some ⟨w.heap.size, 0, none⟩) 3 3, .bool true, .bool true]) ∧ w' = w.alloc (.cells #[.int .i64 1, .int .i64 1, .int .i64 2] 3) := by
  go_enter Try.func129, Try.ntmps129
  go_wp2
  go_ret3
  exact ⟨rfl, rfl⟩
theorem shape_5 (w : World) : Calls Try.prog 129 #[.int .i64 5] w fun e w' => e = .returned (.tuple #[.slice (some ⟨w.heap.size, 0, none⟩) 3 3, .bool true, .bool true]) ∧ w' = w.alloc (.cells #[.int .i64 1, .int .i64 0, .int .i64 2] 3) := by
  go_enter Try.func129, Try.ntmps129
  go_wp2
  go_ret3
  exact ⟨rfl, rfl⟩
theorem shape_6 (w : World) : Calls Try.prog 129 #[.int .i64 6] w fun e w' => e = .returned (.tuple #[.slice (some ⟨w.heap.size, 0, none⟩) 3 3, .bool true, .bool true]) ∧ w' = w.alloc (.cells #[.int .i64 1, .int .i64 0, .int .i64 2] 3) := by
  go_enter Try.func129, Try.ntmps129
  go_wp2
  go_ret3
  exact ⟨rfl, rfl⟩
theorem shape_7 (w : World) : Calls Try.prog 129 #[.int .i64 7] w fun e w' => e = .returned (.tuple #[.slice (some ⟨w.heap.size, 0, none⟩) 3 3, .bool true, .bool true]) ∧ w' = w.alloc (.cells #[.int .i64 0, .int .i64 0, .int .i64 0] 3) := by
  go_enter Try.func129, Try.ntmps129
  go_wp2
  go_ret3
  exact ⟨rfl, rfl⟩
theorem shape_8 (w : World) : Calls Try.prog 129 #[.int .i64 8] w fun e w' => e = .returned (.tuple #[.slice (some ⟨w.heap.size, 0, none⟩) 3 3, .bool true, .bool true]) ∧ w' = w.alloc (.cells #[.int .i64 1, .int .i64 1, .int .i64 2] 3) := by
  go_enter Try.func129, Try.ntmps129
  go_wp2
  go_ret3
  exact ⟨rfl, rfl⟩
theorem shape_9 (w : World) : Calls Try.prog 129 #[.int .i64 9] w fun e w' => e = .returned (.tuple #[.slice (some ⟨w.heap.size, 0, none⟩) 3 3, .bool false, .bool true]) ∧ w' = w.alloc (.cells #[.int .i64 1, .int .i64 0, .int .i64 0] 3) := by
  go_enter Try.func129, Try.ntmps129
  go_wp2
  go_ret3
  exact ⟨rfl, rfl⟩
theorem shape_10 (w : World) : Calls Try.prog 129 #[.int .i64 10] w fun e w' => e = .returned (.tuple #[.slice (some ⟨w.heap.size, 0, none⟩) 3 3, .bool true, .bool true]) ∧ w' = w.alloc (.cells #[.int .i64 1, .int .i64 1, .int .i64 0] 3) := by
  go_enter Try.func129, Try.ntmps129
  go_wp2
  go_ret3
  exact ⟨rfl, rfl⟩
theorem shape_11 (w : World) : Calls Try.prog 129 #[.int .i64 11] w fun e w' => e = .returned (.tuple #[.slice (some ⟨w.heap.size, 0, none⟩) 3 3, .bool true, .bool true]) ∧ w' = w.alloc (.cells #[.int .i64 1, .int .i64 0, .int .i64 0] 3) := by
  go_enter Try.func129, Try.ntmps129
  go_wp2
  go_ret3
  exact ⟨rfl, rfl⟩
theorem shape_12 (w : World) : Calls Try.prog 129 #[.int .i64 12] w fun e w' => e = .returned (.tuple #[.slice (some ⟨w.heap.size, 0, none⟩) 3 3, .bool false, .bool true]) ∧ w' = w.alloc (.cells #[.int .i64 0, .int .i64 0, .int .i64 0] 3) := by
  go_enter Try.func129, Try.ntmps129
  go_wp2
  go_ret3
  exact ⟨rfl, rfl⟩
theorem shape_op (op : Int) (h0 : 20 < op) (h1 : op ≤ 30) (w : World) : Calls Try.prog 129 #[.int .i64 op] w fun e w' => e = .returned (.tuple #[.slice (some ⟨w.heap.size, 0, none⟩) 3 3, .bool false, .bool true]) ∧ w' = w.alloc (.cells #[.int .i64 1, .int .i64 1, .int .i64 1] 3) := by
  go_enter Try.func129, Try.ntmps129
  go_wp2
  go_ret3
  exact ⟨rfl, rfl⟩
theorem shape_none (op : Int) (h : op ≤ 20 ∨ 30 < op) (n1 : (op == 1) = false) (n2 : (op == 2) = false) (n3 : (op == 3) = false) (n4 : (op == 4) = false) (n5 : (op == 5) = false) (n6 : (op == 6) = false) (n7 : (op == 7) = false) (n8 : (op == 8) = false) (n9 : (op == 9) = false) (n10 : (op == 10) = false) (n11 : (op == 11) = false) (n12 : (op == 12) = false) (w : World) : Calls Try.prog 129 #[.int .i64 op] w fun e w' => e = .returned (.tuple #[.slice none 0 0, .bool false, .bool false]) ∧ w = w' := by
  rcases h with h | h
  · have hd : decide ((20 : Int) < op) = false := by simpa using h
    go_enter Try.func129, Try.ntmps129
    go_wp2
    go_ret3
    exact ⟨rfl, rfl⟩
  · have h0 : (20 : Int) < op := by omega
    have hd : decide (op ≤ (30 : Int)) = false := by simpa using h
    go_enter Try.func129, Try.ntmps129
    go_wp2
    go_ret3
    exact ⟨rfl, rfl⟩
end Go.Proofs.Yteiknefajlocoaa
