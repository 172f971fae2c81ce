/- The walks of the laws of numbers: NumShifts, NumTells, NumDivides. -/
import Derived.Test.YtoaapneihcfieaaRef1b
namespace Go.Proofs.Ytoaapneihcfieaa
open Go.ChangeShapes Go.WideShapes Go.ChangeAt Go.RowKit

theorem bd_i64 {a : Int} (h : (Lit.int .i64 a).wf = true) : -9223372036854775808 ≤ a ∧ a ≤ 9223372036854775807 := by
  simpa [Lit.wf, IntKind.min, IntKind.max, IntKind.signed, IntKind.bits] using h
theorem bd_u8 {a : Int} (h : (Lit.int .u8 a).wf = true) : 0 ≤ a ∧ a ≤ 255 := by
  simpa [Lit.wf, IntKind.min, IntKind.max, IntKind.signed, IntKind.bits] using h
theorem wrap64_id {a : Int} (h0 : -9223372036854775808 ≤ a) (h1 : a ≤ 9223372036854775807) : wrap64 a = a := by unfold wrap64; omega
theorem wrap64_bd (a : Int) : -9223372036854775808 ≤ wrap64 a ∧ wrap64 a ≤ 9223372036854775807 := by unfold wrap64; omega
theorem u64_of_wrap (x : Int) (h0 : 0 ≤ x) (h1 : x < 18446744073709551616) : u64 (wrap64 x) = x := by unfold u64 wrap64; omega

set_option maxHeartbeats 1000000 in
theorem numTells_walk (op : Int) (_w0 : (Lit.int .i64 op).wf = true) (a : Int) (wa : (Lit.int .i64 a).wf = true) (b : Int) (wb : (Lit.int .i64 b).wf = true) (w : World) :
    Calls Try.prog 5 #[.int .i64 op, .int .i64 a, .int .i64 b] w fun e w' => e = .returned (.bool true) ∧ Ext w w' := by
  obtain ⟨a0, a1⟩ := bd_i64 wa
  obtain ⟨b0, b1⟩ := bd_i64 wb
  clear wa wb
  go_enter Try.func5, Try.ntmps5
  go_wp2_with fail
  refine (numOp_c op a b _).mono ?_
  rintro e w1 ⟨rfl, rfl⟩
  go_wp2_with fail
  refine (numHolds_c op a b _).mono ?_
  rintro e w1 ⟨rfl, hx1⟩
  go_wp2_with fail
  refine (refOp_c op a b _ a0 a1 b0 b1).mono ?_
  rintro e w2 ⟨rfl, hx2⟩
  go_wp2_with fail
  refine (refHolds_c op a b _ a0 a1 b0 b1).mono ?_
  rintro e w3 ⟨rfl, rfl⟩
  go_wp2_with fail
  go_ret
  exact ⟨ret_b (by simp), hx1.trans hx2⟩

/-! plain: shifting twice; dividing -/
theorem sh_small (n : Int) (h0 : 0 ≤ n) (h1 : n < 64) : sh n = n.toNat := by unfold sh; omega
theorem shl_shl (a n m : Int) (n0 : 0 ≤ n) (m0 : 0 ≤ m) (h : n + m ≤ 63) : nop 7 (nop 7 a n) m = nop 7 a (n + m) := by
  obtain ⟨i, rfl⟩ := Int.eq_ofNat_of_zero_le n0
  obtain ⟨j, rfl⟩ := Int.eq_ofNat_of_zero_le m0
  have e1 := sh_small (i : Int) (by omega) (by omega)
  have e2 := sh_small (j : Int) (by omega) (by omega)
  have e3 := sh_small ((i : Int) + j) (by omega) (by omega)
  simp only [nop, Int.reduceEq, if_false, if_true]
  rw [e1, e2, e3, show ((i : Int)).toNat = i by omega, show ((j : Int)).toNat = j by omega, show ((i : Int) + j).toNat = i + j by omega, u64_wrap64, Int.pow_add]
  have key : ∀ x : Int, wrap64 (x % 18446744073709551616 * 2 ^ j) = wrap64 (x * 2 ^ j) := fun x => by
    have e : x = x % 18446744073709551616 + 18446744073709551616 * (x / 18446744073709551616) := by omega
    conv => rhs; rw [e, Int.add_mul, Int.mul_assoc]
    unfold wrap64
    omega
  rw [key, Int.mul_assoc]
theorem shr_shr (a n m : Int) (n0 : 0 ≤ n) (m0 : 0 ≤ m) (h : n + m ≤ 63) : nop 8 (nop 8 a n) m = nop 8 a (n + m) := by
  obtain ⟨i, rfl⟩ := Int.eq_ofNat_of_zero_le n0
  obtain ⟨j, rfl⟩ := Int.eq_ofNat_of_zero_le m0
  have e1 := sh_small (i : Int) (by omega) (by omega)
  have e2 := sh_small (j : Int) (by omega) (by omega)
  have e3 := sh_small ((i : Int) + j) (by omega) (by omega)
  simp only [nop, Int.reduceEq, if_false, if_true]
  have hp := pow_pos' i
  have hq : u64 a / 2 ^ i ≤ u64 a := Int.ediv_le_self _ (u64_nonneg a)
  have hl := u64_lt a
  rw [e1, e2, e3, show ((i : Int)).toNat = i by omega, show ((j : Int)).toNat = j by omega, show ((i : Int) + j).toNat = i + j by omega,
    u64_of_wrap _ (Int.ediv_nonneg (u64_nonneg a) (Int.le_of_lt hp)) (by omega), Int.ediv_ediv_of_nonneg (Int.le_of_lt hp), ← Int.pow_add]
theorem shl_eight : nop 7 1 3 = 8 := by simp [nop, u64, sh, wrap64]

set_option maxHeartbeats 1000000 in
theorem numShifts_walk (a : Int) (_wa : (Lit.int .i64 a).wf = true) (x : Int) (wx : (Lit.int .u8 x).wf = true) (y : Int) (wy : (Lit.int .u8 y).wf = true) (w : World) :
    Calls Try.prog 3 #[.int .i64 a, .int .u8 x, .int .u8 y] w fun e w' => e = .returned (.bool true) ∧ Ext w w' := by
  obtain ⟨x0, x1⟩ := bd_u8 wx
  obtain ⟨y0, y1⟩ := bd_u8 wy
  clear wx wy
  have h8 := shl_eight
  by_cases hxy : x % 64 + y % 64 ≤ 63
  · have hl := shl_shl a (x % 64) (y % 64) (by omega) (by omega) hxy
    have hr := shr_shr a (x % 64) (y % 64) (by omega) (by omega) hxy
    go_enter Try.func3, Try.ntmps3
    go_wp2_with (go_at_call 14; refine (numOp_c _ _ _ _).mono ?_; rintro e w1 ⟨rfl, rfl⟩)
    all_goals go_ret
    all_goals exact ⟨ret_b (by simp_all), Ext.refl _⟩
  · go_enter Try.func3, Try.ntmps3
    go_wp2_with (go_at_call 14; refine (numOp_c _ _ _ _).mono ?_; rintro e w1 ⟨rfl, rfl⟩)
    all_goals go_ret
    all_goals exact ⟨ret_b (by simp_all), Ext.refl _⟩

theorem div_zero (a : Int) : nop 9 a 0 = 0 ∧ nop 10 a 0 = a := by simp [nop, u64]
theorem div_back (a b : Int) (a0 : -9223372036854775808 ≤ a) (a1 : a ≤ 9223372036854775807) (hb : ¬ u64 b = 0) :
    nop 1 (nop 3 (nop 9 a b) b) (nop 10 a b) = a ∧ nholds 3 (nop 10 a b) b = true ∧ nholds 3 a (nop 9 a b) = false := by
  have hA := u64_nonneg a
  have hAl := u64_lt a
  have hB : 0 < u64 b := by have := u64_nonneg b; omega
  have hBl := u64_lt b
  have hr0 := Int.emod_nonneg (u64 a) (show u64 b ≠ 0 from hb)
  have hr1 := Int.emod_lt_of_pos (u64 a) hB
  have hq0 : 0 ≤ u64 a / u64 b := Int.ediv_nonneg hA (Int.le_of_lt hB)
  have hq1 : u64 a / u64 b ≤ u64 a := Int.ediv_le_self _ hA
  have hd := Int.emod_add_mul_ediv (u64 a) (u64 b)
  have e9 : nop 9 a b = wrap64 (u64 a / u64 b) := by simp [nop, hb]
  have e10 : nop 10 a b = wrap64 (u64 a % u64 b) := by simp [nop, hb]
  have l1 : u64 (wrap64 (u64 a % u64 b)) = u64 a % u64 b := u64_of_wrap _ hr0 (by omega)
  have l2 : u64 (wrap64 (u64 a / u64 b)) = u64 a / u64 b := u64_of_wrap _ hq0 (by omega)
  rw [e9, e10]
  refine ⟨?_, ?_, ?_⟩
  · simp only [nop, Int.reduceEq, if_false, if_true]
    have k1 : wrap64 (wrap64 (u64 a / u64 b) * b) = wrap64 (u64 b * (u64 a / u64 b)) := by
      generalize u64 a / u64 b = q
      have e1 : ∃ c, wrap64 q = q + 18446744073709551616 * c := ⟨-((q + 9223372036854775808) / 18446744073709551616), by unfold wrap64; omega⟩
      have e2 : ∃ c, u64 b = b + 18446744073709551616 * c := ⟨-(b / 18446744073709551616), by unfold u64; omega⟩
      obtain ⟨c, hc⟩ := e1
      obtain ⟨d, hd⟩ := e2
      rw [hc, hd]
      have e3 : (q + 18446744073709551616 * c) * b = q * b + 18446744073709551616 * (c * b) := by rw [Int.add_mul, Int.mul_assoc]
      have e4 : (b + 18446744073709551616 * d) * q = q * b + 18446744073709551616 * (d * q) := by rw [Int.add_mul, Int.mul_comm b q, Int.mul_assoc]
      rw [e3, e4]
      unfold wrap64
      omega
    rw [k1, wrap64_add, show u64 b * (u64 a / u64 b) + u64 a % u64 b = u64 a by omega]
    unfold wrap64 u64
    omega
  · simp [nholds, l1]; exact hr1
  · simp [nholds, l2]; exact hq1

set_option maxHeartbeats 1000000 in
theorem numDivides_walk (a : Int) (wa : (Lit.int .i64 a).wf = true) (b : Int) (wb : (Lit.int .i64 b).wf = true) (w : World) :
    Calls Try.prog 6 #[.int .i64 a, .int .i64 b] w fun e w' => e = .returned (.bool true) ∧ Ext w w' := by
  obtain ⟨a0, a1⟩ := bd_i64 wa
  obtain ⟨b0, b1⟩ := bd_i64 wb
  clear wa wb
  by_cases hb : b = 0
  · subst hb
    obtain ⟨h1, h2⟩ := div_zero a
    have h3 : nholds 1 a a = true := by simp [nholds]
    go_enter Try.func6, Try.ntmps6
    go_wp2_with fail
    refine (numOp_c _ _ _ _).mono ?_
    rintro e w1 ⟨rfl, rfl⟩
    go_wp2_with fail
    refine (numOp_c _ _ _ _).mono ?_
    rintro e w1 ⟨rfl, rfl⟩
    go_wp2_with fail
    refine (numHolds_c _ _ _ _).mono ?_
    rintro e w1 ⟨rfl, hx1⟩
    go_wp2_with fail
    go_ret
    exact ⟨ret_b (by simp), hx1⟩
  · obtain ⟨h1, h2, h3⟩ := div_back a b a0 a1 (fun h => hb ((u64_zero b0 b1).1 h))
    have hbb : (b == 0) = false := by simpa using hb
    clear hb
    go_enter Try.func6, Try.ntmps6
    go_wp2_with fail
    refine (numOp_c _ _ _ _).mono ?_
    rintro e w1 ⟨rfl, rfl⟩
    go_wp2_with fail
    refine (numOp_c _ _ _ _).mono ?_
    rintro e w1 ⟨rfl, rfl⟩
    go_wp2_with fail
    refine (numOp_c _ _ _ _).mono ?_
    rintro e w1 ⟨rfl, rfl⟩
    go_wp2_with fail
    refine (numOp_c _ _ _ _).mono ?_
    rintro e w1 ⟨rfl, rfl⟩
    go_wp2_with fail
    refine (numHolds_c _ _ _ _).mono ?_
    rintro e w1 ⟨rfl, hx1⟩
    go_wp2_with fail
    refine (numHolds_c _ _ _ _).mono ?_
    rintro e w2 ⟨rfl, hx2⟩
    go_wp2_with fail
    go_ret
    exact ⟨ret_b (by simp_all), hx1.trans hx2⟩
end Go.Proofs.Ytoaapneihcfieaa
