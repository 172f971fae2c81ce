/- known.Has, known.Of, and the reference's read, power, Has, Of, upTo: walks. -/
import Derived.Test.YtoaapneihcfieaaKnown
import Derived.Test.YtoaapneihcfieaaShelf
namespace Go.Proofs.Ytoaapneihcfieaa
open Go.ChangeShapes Go.WideShapes Go.ChangeAt Go.RowKit

theorem one_new (w : World) (T : TypeId) (a0 a1 : Value) : ((w.alloc (.cells #[a0, a1] T)).cell? ⟨w.heap.size, 0, none⟩ = some a0 ∧ (w.alloc (.cells #[a0, a1] T)).frozen? ⟨w.heap.size, 0, none⟩ = false) ∧
    ((w.alloc (.cells #[a0, a1] T)).cell? ⟨w.heap.size, 1, none⟩ = some a1 ∧ (w.alloc (.cells #[a0, a1] T)).frozen? ⟨w.heap.size, 1, none⟩ = false) := by
  have h0 := Blk.new w T #[a0, a1]
  exact ⟨⟨by rw [h0.cell]; rfl, h0.frozen 0⟩, ⟨by rw [h0.cell]; rfl, h0.frozen 1⟩⟩

set_option maxHeartbeats 1000000 in
theorem kHas_c (b n : Int) (s : Bool) (w : World) :
    Calls Try.prog 24 #[.agg #[.int .i64 b, .bool s], .int .i64 n] w fun e w' => e = .returned (.bool (khas b n)) ∧ Ext w w' := by
  obtain ⟨b0, b1⟩ := nrm_bd b
  go_enter Try.func24, Try.ntmps24
  go_wp2_with fail
  obtain ⟨p0, p1⟩ := one_new w 25 (.int .i64 b) (.bool s)
  refine (norm_c _ _ _).mono ?_
  rintro e w1 ⟨rfl, hx⟩
  have p0 := kept2 hx p0
  have p1 := kept2 hx p1
  have Hr : Hid (khas b n = kfit (nrm b) n) := rfl
  obtain ⟨m, hm⟩ := Int.eq_ofNat_of_zero_le b0
  rw [hm] at b1 Hr ⊢
  clear hm b0
  by_cases h17 : m = 17
  · subst h17
    go_wp2
    go_ret
    refine ⟨ret_b (by rw [Hr.out]; rfl), ?_⟩
    (repeat' first | (with_reducible exact Ext.refl _) | (with_reducible assumption) | (with_reducible refine Ext.drew ?_) | (with_reducible refine Ext.drewN ?_ _) | (with_reducible refine Ext.alloc ?_ _) | (with_reducible refine Ext.setCell ?_ (by first | (simp; done) | (simp; omega) | omega) _) | (with_reducible refine Ext.trans ?_ (by with_reducible assumption)))
  · have hne : ((m : Int) == 17) = false := by rw [beq_eq_false_iff_ne]; omega
    by_cases hn : 0 ≤ n
    · have hf := div_zero_iff n m hn
      go_wp2
      all_goals go_ret
      all_goals refine ⟨ret_b ?_, ?_⟩
      all_goals first | (rw [Hr.out]; simp [kfit, hn]; omega) | skip
      all_goals (repeat' first | (with_reducible exact Ext.refl _) | (with_reducible assumption) | (with_reducible refine Ext.drew ?_) | (with_reducible refine Ext.drewN ?_ _) | (with_reducible refine Ext.alloc ?_ _) | (with_reducible refine Ext.setCell ?_ (by first | (simp; done) | (simp; omega) | omega) _) | (with_reducible refine Ext.trans ?_ (by with_reducible assumption)))
    · go_wp2
      all_goals go_ret
      all_goals refine ⟨ret_b ?_, ?_⟩
      all_goals first | (rw [Hr.out]; simp [kfit]; omega) | skip
      all_goals (repeat' first | (with_reducible exact Ext.refl _) | (with_reducible assumption) | (with_reducible refine Ext.drew ?_) | (with_reducible refine Ext.drewN ?_ _) | (with_reducible refine Ext.alloc ?_ _) | (with_reducible refine Ext.setCell ?_ (by first | (simp; done) | (simp; omega) | omega) _) | (with_reducible refine Ext.trans ?_ (by with_reducible assumption)))

/-- a result of two cells, whose block is the last -/
theorem res_new {w : World} {fn : Func} {p : Tmp} {a0 a1 : Value} (hr : fn.results = #[.cell p 25]) (tmps : Array Value) (hp : tmps.getD p undef = .pointer (some ⟨w.heap.size, 0, none⟩)) :
    (results fn tmps).run Try.prog (w.alloc (.cells #[a0, a1] 25)) = .ok (.agg #[a0, a1]) (w.alloc (.cells #[a0, a1] 25)) :=
  results_blk (Blk.new w 25 #[a0, a1]) hr tmps hp Try.underlying25 rfl infoKnown

set_option maxHeartbeats 1000000 in
theorem kOf_c (n : Int) (w : World) :
    Calls Try.prog 17 #[.int .i64 n] w fun e w' => e = .returned (.agg #[.int .i64 (kof n), .bool false]) ∧ Ext w w' := by
  have Hk : Hid (kof n = if n < 0 ∨ 65536 ≤ n then (17 : Int) else ((Lib.bitLen n.toNat : Nat) : Int)) := rfl
  by_cases h0 : n < 0
  · go_enter Try.func17, Try.ntmps17
    go_wp2
    exact bodyPost_ret (v := .agg #[.int .i64 17, .bool false]) (by simp [results, Try.results17, go_sem]) rfl ⟨ret_k (by rw [Hk.out, if_pos (.inl h0)]) rfl, (Ext.refl _).alloc _⟩
  by_cases h1 : 65536 ≤ n
  · go_enter Try.func17, Try.ntmps17
    go_wp2
    exact bodyPost_ret (v := .agg #[.int .i64 17, .bool false]) (by simp [results, Try.results17, go_sem]) rfl ⟨ret_k (by rw [Hk.out, if_pos (.inr h1)]) rfl, (Ext.refl _).alloc _⟩
  have hu : IntKind.u64.wrap n = n := IntWalk.u64_in n (by omega)
  go_enter Try.func17, Try.ntmps17
  go_wp2_with (go_at_call 42; refine (Try.bits_Len64 n _ (by omega) (by omega)).mono ?_; rintro e w' ⟨rfl, rfl⟩)
  exact bodyPost_ret (v := .agg #[.int .i64 (Lib.bitLen n.toNat : Nat), .bool false]) (by simp [results, Try.results17, go_sem]) rfl ⟨ret_k (by rw [Hk.out, if_neg (by omega)]) rfl, (Ext.refl _).alloc _⟩

theorem nrm_16 (b : Int) : (if b < 0 ∨ 16 < b then 17 else b) = nrm b := by unfold nrm; split <;> split <;> omega

set_option maxHeartbeats 1000000 in
theorem read_c (b : Int) (s : Bool) (w : World) :
    Calls Try.prog 48 #[.agg #[.int .i64 b, .bool s]] w fun e w' => e = .returned (.agg #[.int .i64 (nrm b), .bool s]) ∧ Ext w w' := by
  have Hn := Lib.hid (nrm_16 b)
  by_cases h0 : b < 0
  · go_enter Try.func48, Try.ntmps48
    go_wp2
    exact bodyPost_ret (v := .agg #[.int .i64 17, .bool s]) (by simp [results, Try.results48, go_sem]) rfl ⟨ret_k (by rw [← Hn.out, if_pos (.inl h0)]) rfl, ((Ext.refl _).alloc _).alloc _⟩
  by_cases h1 : 16 < b
  · go_enter Try.func48, Try.ntmps48
    go_wp2
    exact bodyPost_ret (v := .agg #[.int .i64 17, .bool s]) (by simp [results, Try.results48, go_sem]) rfl ⟨ret_k (by rw [← Hn.out, if_pos (.inr h1)]) rfl, ((Ext.refl _).alloc _).alloc _⟩
  have h0' : 0 ≤ b := by omega
  have h1' : b ≤ 16 := by omega
  go_enter Try.func48, Try.ntmps48
  go_wp2
  exact bodyPost_ret (v := .agg #[.int .i64 b, .bool s]) (by simp [results, Try.results48, go_sem]) rfl ⟨ret_k (by rw [← Hn.out, if_neg (by omega)]) rfl, ((Ext.refl _).alloc _).alloc _⟩

set_option maxHeartbeats 1000000 in
theorem power_c (m : Nat) (hm : m ≤ 16) (w : World) :
    Calls Try.prog 49 #[.int .i64 (m : Int)] w fun e w' => e = .returned (.int .i64 (2 ^ m)) ∧ w = w' := by
  go_enter Try.func49, Try.ntmps49
  go_wp2
  go_loop [3, 4] (fun s i => ∃ k : Nat, k ≤ m ∧ i = .int .i64 k ∧ s = .int .i64 (2 ^ k)) (fun _ i => m - (intOf i).toNat)
  case atStart => exact ⟨0, by omega, rfl, rfl⟩
  case round =>
    obtain ⟨k, hk, rfl, rfl⟩ := hrel
    by_cases hlt : k < m
    · have hp0 : (0 : Int) < 2 ^ k := Int.pow_pos (by omega)
      have hp1 : (2 : Int) ^ k ≤ 65536 := pow_le k 16 (by omega)
      have Hp : Hid ((2 : Int) ^ k + 2 ^ k = 2 ^ (k + 1)) := by show _ = _; rw [Int.pow_succ]; omega
      generalize (2 : Int) ^ k = p at *
      go_wp2
      go_round
      case rel => exact ⟨k + 1, by omega, by go_num, by rw [Hp.out]⟩
      case measure => first | (simp [intOf]; done) | (simp [intOf]; omega)
    · obtain rfl : k = m := by omega
      go_wp2
      go_ret
      exact ⟨rfl, rfl⟩

set_option maxHeartbeats 1000000 in
theorem rHas_c (b n : Int) (s : Bool) (w : World) :
    Calls Try.prog 21 #[.agg #[.int .i64 b, .bool s], .int .i64 n] w fun e w' => e = .returned (.bool (khas b n)) ∧ Ext w w' := by
  obtain ⟨b0, b1⟩ := nrm_bd b
  go_enter Try.func21, Try.ntmps21
  go_wp2_with fail
  obtain ⟨p0, p1⟩ := one_new w 25 (.int .i64 b) (.bool s)
  refine (read_c _ _ _).mono ?_
  rintro e w1 ⟨rfl, hx⟩
  have p0 := kept2 hx p0
  have p1 := kept2 hx p1
  have Hr : Hid (khas b n = kfit (nrm b) n) := rfl
  obtain ⟨m, hm⟩ := Int.eq_ofNat_of_zero_le b0
  rw [hm] at b1 Hr ⊢
  clear hm b0
  by_cases h17 : m = 17
  · subst h17
    go_wp2
    go_ret
    refine ⟨ret_b (by rw [Hr.out]; rfl), ?_⟩
    (repeat' first | (with_reducible exact Ext.refl _) | (with_reducible assumption) | (with_reducible refine Ext.drew ?_) | (with_reducible refine Ext.drewN ?_ _) | (with_reducible refine Ext.alloc ?_ _) | (with_reducible refine Ext.setCell ?_ (by first | (simp; done) | (simp; omega) | omega) _) | (with_reducible refine Ext.trans ?_ (by with_reducible assumption)))
  · have hne : ((m : Int) == 17) = false := by rw [beq_eq_false_iff_ne]; omega
    by_cases hn : 0 ≤ n
    · go_wp2_with (go_at_call 49; refine (power_c m (by omega) _).mono ?_; rintro e w' ⟨rfl, rfl⟩)
      all_goals go_ret
      all_goals refine ⟨ret_b ?_, ?_⟩
      all_goals first | (rw [Hr.out]; simp [kfit, hn]; omega) | skip
      all_goals (repeat' first | (with_reducible exact Ext.refl _) | (with_reducible assumption) | (with_reducible refine Ext.drew ?_) | (with_reducible refine Ext.drewN ?_ _) | (with_reducible refine Ext.alloc ?_ _) | (with_reducible refine Ext.setCell ?_ (by first | (simp; done) | (simp; omega) | omega) _) | (with_reducible refine Ext.trans ?_ (by with_reducible assumption)))
    · go_wp2
      all_goals go_ret
      all_goals refine ⟨ret_b ?_, ?_⟩
      all_goals first | (rw [Hr.out]; simp [kfit]; omega) | skip
      all_goals (repeat' first | (with_reducible exact Ext.refl _) | (with_reducible assumption) | (with_reducible refine Ext.drew ?_) | (with_reducible refine Ext.drewN ?_ _) | (with_reducible refine Ext.alloc ?_ _) | (with_reducible refine Ext.setCell ?_ (by first | (simp; done) | (simp; omega) | omega) _) | (with_reducible refine Ext.trans ?_ (by with_reducible assumption)))
end Go.Proofs.Ytoaapneihcfieaa
