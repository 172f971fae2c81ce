/- Laid together from: Num, Ref1, Ref1b. -/
import Derived.Test.YtiiollmbogojoaaProg
import Derived.Test.YtiiollmbogojoaaHardenQuietB5
import Derived.Test.YtiiollmbogojoaaHardenQuietB7
import Derived.WalkLawsBesides
import Derived.WalkSpells
import Derived.Outline
import Derived.Test.YtiiollmbogojoaaHardenQuietB11

namespace Go.Proofs.Ytiiollmbogojoaa
open Go.ChangeShapes Go.WideShapes Go.ChangeAt Go.RowKit
theorem info64 : (Try.prog.info? 146).map (·.size) = some 64 := by kernel_rfl
set_option maxHeartbeats 1000000 in
theorem bits_c (n : Int) (w : World) (h0 : -9223372036854775808 ≤ n) (h1 : n ≤ 9223372036854775807) :
    Calls Try.prog 105 #[.int .i64 n] w fun e w' => e = .returned (.agg (arr (tb n))) ∧ Ext w w' := by
  go_enter Try.func105, Try.ntmps105
  go_wp2
  rw [← arr_zero]
  go_loopw [0, 4] (fun v i wr => ∃ k : Nat, k ≤ 64 ∧ i = .int .i64 k ∧ v = .int .i64 (n / 2 ^ k) ∧ Below w.heap.size w wr ∧ Blk wr w.heap.size 146 (arr (fun _ => false)) ∧ Blk wr (w.heap.size + 1) 146 (arr (bitsTo n k))) (fun _ i _ => 64 - (intOf i).toNat)
  case atStart =>
    refine ⟨0, by omega, rfl, by simp, ?_, ?_, ?_⟩
    · exact ((Ext.refl _).alloc _).alloc _
    · exact (Blk.new _ _ _).alloc _
    · rw [bitsTo_zero]; have := Blk.new (w.alloc (.cells (arr fun _ => false) 146)) 146 (arr fun _ => false); simpa using this
  case round =>
    obtain ⟨k, hk, rfl, rfl, hb, hz, hl⟩ := hrel
    have hnn := half n k
    obtain ⟨hb0, hb1⟩ := half_bd n k h0 h1
    by_cases hlt : k < 64
    · have hcell : wr.cell? ⟨w.heap.size + 1, k, none⟩ = some (.bool (bitsTo n k k)) := by rw [hl.cell, arr_get _ _ hlt]
      have hfz := hl.frozen k
      have htb : tb n k = decide (n / 2 ^ k % 2 = 1) := rfl
      generalize n / 2 ^ k = m at *
      have Hnn := Lib.hid hnn
      have Htb := Lib.hid htb
      clear hnn htb
      have hstep : ∀ b : Bool, b = decide (m % 2 = 1) → Blk (wr.setCell ⟨w.heap.size + 1, k, none⟩ (.bool b)) (w.heap.size + 1) 146 (arr (bitsTo n (k + 1))) := fun b hb => by
        have := hl.set_ k (.bool b)
        rwa [bitsTo_succ n k hlt b (by rw [hb, Htb.out])] at this
      have hz' : ∀ b : Bool, Blk (wr.setCell ⟨w.heap.size + 1, k, none⟩ (.bool b)) w.heap.size 146 (arr fun _ => false) := fun b => hz.far (by simp) _
      have hb' : ∀ b : Bool, Below w.heap.size w (wr.setCell ⟨w.heap.size + 1, k, none⟩ (.bool b)) := fun b => hb.setCell (by simp) _
      have Hs := Lib.hid hstep
      have Hz := Lib.hid hz'
      have Hb := Lib.hid hb'
      clear hstep hz' hb' hz hl hb
      by_cases hp : m % 2 = 0
      · have ht := tmod2_even m hp
        have hd := tdiv2_even m hp
        go_wp2
        go_roundw
        case rel => exact ⟨k + 1, by omega, by go_num, by rw [← Hnn.out], Hb.out _, Hz.out _, Hs.out _ (by simp; omega)⟩
        case measure => simp [intOf]; omega
      · by_cases hs : 0 ≤ m
        · have ht := tmod2_pos m hp hs
          have hd := tdiv2_even (m - 1) (by omega)
          have hr : (m - 1) / 2 = m / 2 := by omega
          go_wp2
          go_roundw
          case rel => exact ⟨k + 1, by omega, by go_num, by rw [← Hnn.out], Hb.out _, Hz.out _, Hs.out _ (by simp; omega)⟩
          case measure => simp [intOf]; omega
        · have ht := tmod2_neg m hp hs
          have hd := tdiv2_even (m - 1) (by omega)
          have hr : (m - 1) / 2 = m / 2 := by omega
          go_wp2
          go_roundw
          case rel => exact ⟨k + 1, by omega, by go_num, by rw [← Hnn.out], Hb.out _, Hz.out _, Hs.out _ (by simp; omega)⟩
          case measure => simp [intOf]; omega
    · have : k = 64 := by omega
      subst this
      clear hnn hlt
      go_wp2_with (first | ((with_reducible refine load_all hl ?_ Try.underlying146 ?_ ?_ ?_); rfl; rfl; (rw [arr_size]; exact info64)) | ((with_reducible refine store_all hz (arr (bitsTo n 64)) ?_ ?_ ?_ ?_ ?_ ?_); rfl; rfl; (simp [arr_size]); (rw [arr_size]; exact info64); exact arr_one _))
      exact bodyPost_ret (results_blk (hz.stored (arr (bitsTo n 64)) (by simp [arr_size])) rfl _ rfl Try.underlying146 rfl (by rw [arr_size]; exact info64)) rfl ⟨ret_v (by rw [bitsTo_all]), below_setCells _ hb (Nat.le_refl _) 0⟩
set_option maxHeartbeats 1000000 in
theorem of_c (f : Nat → Bool) (w : World) :
    Calls Try.prog 113 #[.agg (arr f)] w fun e w' => e = .returned (.int .i64 (ofB f)) ∧ Ext w w' := by
  go_enter Try.func113, Try.ntmps113
  go_wp2
  go_loop [3, 4, 5] (fun s p i => ∃ k : Nat, k ≤ 64 ∧ i = .int .i64 k ∧ s = .int .i64 (wrap64 (sumTo f k)) ∧ p = .int .i64 (wrap64 (2 ^ k))) (fun _ _ i => 64 - (intOf i).toNat)
  case atStart => exact ⟨0, by omega, rfl, by simp [sumTo, wrap64], by simp [wrap64]⟩
  case round =>
    obtain ⟨k, hk, rfl, rfl, rfl⟩ := hrel
    by_cases hlt : k < 64
    · have hget := arr_at f k
      have hsz := arr_size f
      by_cases hb : f k = true
      · go_wp2
        go_round
        case rel => exact ⟨k + 1, by omega, by go_num, by rw [← sum_yes f k hb], by rw [← pow_yes]⟩
        case measure => simp [intOf]; omega
      · have hb' : f k = false := by simpa using hb
        have Hsum := Lib.hid (sum_no f k hb')
        clear hb
        go_wp2
        go_round
        case rel => exact ⟨k + 1, by omega, by go_num, by rw [← Hsum.out], by rw [← pow_yes]⟩
        case measure => simp [intOf]; omega
    · obtain rfl : k = 64 := by omega
      clear hlt
      go_wp2
      go_ret
      exact ⟨rfl, (Ext.refl _).alloc _⟩
set_option maxHeartbeats 2000000 in
theorem bitwise_c (op a b : Int) (w : World) (hop : op = 4 ∨ op = 5 ∨ op = 6) (a0 : -9223372036854775808 ≤ a) (a1 : a ≤ 9223372036854775807) (b0 : -9223372036854775808 ≤ b) (b1 : b ≤ 9223372036854775807) :
    Calls Try.prog 104 #[.int .i64 op, .int .i64 a, .int .i64 b] w fun e w' => e = .returned (.int .i64 (ofB fun i => bop op (tb a i) (tb b i))) ∧ Ext w w' := by
  rcases hop with rfl | rfl | rfl
  all_goals
    generalize hF : (fun i => bop _ (tb a i) (tb b i)) = F
    have HF := Lib.hid hF
    clear hF
    go_enter Try.func104, Try.ntmps104
    go_wp2_with fail
    refine (bits_c a _ a0 a1).mono ?_
    rintro e w1 ⟨rfl, hx1⟩
    go_wp2_with ((with_reducible refine store_new (arr (tb a)) ?_ ?_ ?_ ?_ ?_ ?_); rfl; rfl; (simp [arr_size]); (rw [arr_size]; exact info64); exact arr_one _)
    refine (bits_c b _ b0 b1).mono ?_
    rintro e w2 ⟨rfl, hx2⟩
    go_wp2_with ((with_reducible refine store_new (arr (tb b)) ?_ ?_ ?_ ?_ ?_ ?_); rfl; rfl; (simp [arr_size]); (rw [arr_size]; exact info64); exact arr_one _)
    rw [← arr_zero]
    go_loopw [10] (fun i wr => ∃ k : Nat, k ≤ 64 ∧ i = .int .i64 k ∧ Ext w wr ∧ Blk wr w1.heap.size 146 (arr (tb a)) ∧ Blk wr w2.heap.size 146 (arr (tb b)) ∧ Blk wr (w2.heap.size + 1) 146 (arr (fillTo F k))) (fun i _ => 64 - (intOf i).toNat)
    case atStart =>
      refine ⟨0, by omega, rfl, ?_, ?_, ?_, ?_⟩
      · exact ((((Ext.trans hx1 ((Ext.refl _).alloc _)).trans hx2).alloc _).alloc _)
      · exact (((Blk.new _ _ _).ext hx2).alloc _).alloc _
      · exact (Blk.new _ _ _).alloc _
      · rw [fillTo_zero]; have := Blk.new (w2.alloc (.cells (arr (tb b)) 146)) 146 (arr fun _ => false); simpa using this
    case round =>
      obtain ⟨k, hk, rfl, hx, hA, hB, hZ⟩ := hrel
      have hs1 := hx1.size
      have hs2 := hx2.size
      simp only [World.size_alloc] at hs2
      by_cases hlt : k < 64
      · have cA : wr.cell? ⟨w1.heap.size, k, none⟩ = some (.bool (tb a k)) := by rw [hA.cell, arr_get _ _ hlt]
        have cB : wr.cell? ⟨w2.heap.size, k, none⟩ = some (.bool (tb b k)) := by rw [hB.cell, arr_get _ _ hlt]
        have cZ : wr.cell? ⟨w2.heap.size + 1, k, none⟩ = some (.bool (fillTo F k k)) := by rw [hZ.cell, arr_get _ _ hlt]
        have fZ := hZ.frozen k
        have Hn : Hid (∀ v : Bool, v = F k → Ext w (wr.setCell ⟨w2.heap.size + 1, k, none⟩ (.bool v)) ∧ Blk (wr.setCell ⟨w2.heap.size + 1, k, none⟩ (.bool v)) w1.heap.size 146 (arr (tb a)) ∧ Blk (wr.setCell ⟨w2.heap.size + 1, k, none⟩ (.bool v)) w2.heap.size 146 (arr (tb b)) ∧ Blk (wr.setCell ⟨w2.heap.size + 1, k, none⟩ (.bool v)) (w2.heap.size + 1) 146 (arr (fillTo F (k + 1)))) := by
          intro v hv
          refine ⟨hx.setCell (by simp; omega) _, hA.far (by simp; omega) _, hB.far (by simp) _, ?_⟩
          have := hZ.set_ k (.bool v)
          rwa [fillTo_succ F k hlt v hv] at this
        clear hA hB hZ hx hx1 hx2
        have hFk := congrFun HF.out k
        generalize fillTo F k k = old at cZ
        cases hAk : tb a k <;> cases hBk : tb b k
        all_goals
          rw [hAk, hBk] at hFk
          rw [hAk] at cA
          rw [hBk] at cB
          have HFk := Lib.hid hFk
          clear hFk hAk hBk
          go_wp2
          try go_region
          try go_wp2
          go_roundw
          case rel =>
            have hn := Hn.out _ HFk.out
            first
              | exact ⟨k + 1, by omega, by go_num, hn⟩
              | exact ⟨k + 1, by omega, by go_num, hn.1.drew, hn.2.1.drew, hn.2.2.1.drew, hn.2.2.2.drew⟩
          case measure => simp [intOf]; omega
      · obtain rfl : k = 64 := by omega
        clear hlt
        go_wp2_with (first | ((with_reducible refine load_all hZ ?_ Try.underlying146 ?_ ?_ ?_); rfl; rfl; (rw [arr_size]; exact info64)) | (go_at_call 113; refine (of_c _ _).mono ?_; rintro e w3 ⟨rfl, hx3⟩))
        go_ret
        exact ⟨ret_i (ofB_fill F), hx.trans hx3⟩
set_option maxHeartbeats 1000000 in
theorem below_c (a b : Int) (w : World) (a0 : -9223372036854775808 ≤ a) (a1 : a ≤ 9223372036854775807) (b0 : -9223372036854775808 ≤ b) (b1 : b ≤ 9223372036854775807) :
    Calls Try.prog 79 #[.int .i64 a, .int .i64 b] w fun e w' => e = .returned (.bool (nbelow a b)) ∧ w = w' := by
  have hn := nbelow_other a0 a1 b0 b1
  have Hn := Lib.hid hn
  clear hn
  by_cases ha : a < 0 <;> by_cases hb : b < 0
  all_goals
    go_enter Try.func79, Try.ntmps79
    go_wp2
    go_ret
    exact ⟨ret_b (by rw [Hn.out]; first | (simp [ha, hb]; done) | (simp; omega)), rfl⟩
set_option maxHeartbeats 2000000 in
theorem shift_c (a s : Int) (w : World) (s0 : -63 ≤ s) (s1 : s ≤ 63) (a0 : -9223372036854775808 ≤ a) (a1 : a ≤ 9223372036854775807) :
    Calls Try.prog 106 #[.int .i64 a, .int .i64 s] w fun e w' => e = .returned (.int .i64 (ofB (mv (tb a) s))) ∧ Ext w w' := by
  go_enter Try.func106, Try.ntmps106
  go_wp2_with fail
  refine (bits_c a _ a0 a1).mono ?_
  rintro e w1 ⟨rfl, hx1⟩
  go_wp2_with ((with_reducible refine store_new (arr (tb a)) ?_ ?_ ?_ ?_ ?_ ?_); rfl; rfl; (simp [arr_size]); (rw [arr_size]; exact info64); exact arr_one _)
  rw [← arr_zero]
  go_loopw [7] (fun i wr => ∃ k : Nat, k ≤ 64 ∧ i = .int .i64 k ∧ Ext w wr ∧ Blk wr w1.heap.size 146 (arr (tb a)) ∧ Blk wr (w1.heap.size + 1) 146 (arr (fillTo (mv (tb a) s) k))) (fun i _ => 64 - (intOf i).toNat)
  case atStart =>
    refine ⟨0, by omega, rfl, ?_, ?_, ?_⟩
    · exact (hx1.alloc _).alloc _
    · exact (Blk.new _ _ _).alloc _
    · rw [fillTo_zero]; have := Blk.new (w1.alloc (.cells (arr (tb a)) 146)) 146 (arr fun _ => false); simpa using this
  case round =>
    obtain ⟨k, hk, rfl, hx, hA, hZ⟩ := hrel
    have hs1 := hx1.size
    by_cases hlt : k < 64
    · have cZ : wr.cell? ⟨w1.heap.size + 1, k, none⟩ = some (.bool (fillTo (mv (tb a) s) k k)) := by rw [hZ.cell, arr_get _ _ hlt]
      have fZ := hZ.frozen k
      have Hn : Hid (∀ v : Bool, v = mv (tb a) s k → Ext w (wr.setCell ⟨w1.heap.size + 1, k, none⟩ (.bool v)) ∧ Blk (wr.setCell ⟨w1.heap.size + 1, k, none⟩ (.bool v)) w1.heap.size 146 (arr (tb a)) ∧ Blk (wr.setCell ⟨w1.heap.size + 1, k, none⟩ (.bool v)) (w1.heap.size + 1) 146 (arr (fillTo (mv (tb a) s) (k + 1)))) := by
        intro v hv
        refine ⟨hx.setCell (by simp; omega) _, hA.far (by simp) _, ?_⟩
        have := hZ.set_ k (.bool v)
        rwa [fillTo_succ _ k hlt v hv] at this
      have Hz : Hid (mv (tb a) s k = false → arr (fillTo (mv (tb a) s) k) = arr (fillTo (mv (tb a) s) (k + 1))) := fun h => arr_congr fun i _ => by
        unfold fillTo
        by_cases e : i = k
        · subst e; simp [h]
        · congr 1; simp; omega
      have HZ := Lib.hid hZ
      generalize fillTo (mv (tb a) s) k k = old at cZ
      by_cases h0 : 0 ≤ (k : Int) - s
      · by_cases h1 : (k : Int) - s < 64
        · obtain ⟨j, hj⟩ := Int.eq_ofNat_of_zero_le h0
          have hjl : j < 64 := by omega
          have cA : wr.cell? ⟨w1.heap.size, j, none⟩ = some (.bool (tb a j)) := by rw [hA.cell, arr_get _ _ hjl]
          have hv : tb a j = mv (tb a) s k := by unfold mv; rw [hj]; simp; omega
          have Hv := Lib.hid hv
          clear hZ hA hx hv
          go_wp2
          go_roundw
          case rel => exact ⟨k + 1, by omega, by go_num, Hn.out _ Hv.out⟩
          case measure => simp [intOf]; omega
        · have hv : mv (tb a) s k = false := by unfold mv; simp; omega
          have Hv := Lib.hid hv
          have Hk : Hid (Ext w wr ∧ Blk wr w1.heap.size 146 (arr (tb a))) := ⟨hx, hA⟩
          clear hZ hA hx hv
          go_wp2
          go_roundw
          case rel => exact ⟨k + 1, by omega, by go_num, Hk.out.1, Hk.out.2, by rw [← Hz.out Hv.out]; exact HZ.out⟩
          case measure => simp [intOf]; omega
      · have hv : mv (tb a) s k = false := by unfold mv; simp; omega
        have Hv := Lib.hid hv
        have Hk : Hid (Ext w wr ∧ Blk wr w1.heap.size 146 (arr (tb a))) := ⟨hx, hA⟩
        clear hZ hA hx hv
        go_wp2
        go_roundw
        case rel => exact ⟨k + 1, by omega, by go_num, Hk.out.1, Hk.out.2, by rw [← Hz.out Hv.out]; exact HZ.out⟩
        case measure => simp [intOf]; omega
    · obtain rfl : k = 64 := by omega
      clear hlt
      go_wp2_with (first | ((with_reducible refine load_all hZ ?_ Try.underlying146 ?_ ?_ ?_); rfl; rfl; (rw [arr_size]; exact info64)) | (go_at_call 113; refine (of_c _ _).mono ?_; rintro e w3 ⟨rfl, hx3⟩))
      go_ret
      exact ⟨ret_i (ofB_fill _), hx.trans hx3⟩
theorem div_next (a b : Int) (hb : 0 < u64 b) (k : Nat) (hk : k < 64) (t : Int) (ht : t = if tb a k then 1 else 0) :
    (¬ wrap64 (rst (u64 a) (u64 b) (k + 1)) < 0 → (nbelow (wrap64 (2 * rst (u64 a) (u64 b) (k + 1) + t)) b = true ↔ tb (u64 a / u64 b) k = false)) ∧
    (wrap64 (rst (u64 a) (u64 b) (k + 1)) < 0 → tb (u64 a / u64 b) k = true) ∧
    (tb (u64 a / u64 b) k = true → wrap64 (wrap64 (2 * rst (u64 a) (u64 b) (k + 1) + t) - b) = wrap64 (rst (u64 a) (u64 b) k)) ∧
    (tb (u64 a / u64 b) k = false → wrap64 (2 * rst (u64 a) (u64 b) (k + 1) + t) = wrap64 (rst (u64 a) (u64 b) k)) := by
  obtain ⟨h1, h2⟩ := rst_step (u64 a) (u64 b) k (u64_nonneg a) hb
  obtain ⟨r0, r1⟩ := rst_bd (u64 a) (u64 b) (k + 1) hb
  have hbl := u64_lt b
  have htm : t = u64 a / 2 ^ k % 2 := by
    rw [ht, ← tb_u64 a k hk]
    unfold tb
    rcases Int.emod_two_eq (u64 a / 2 ^ k) with h | h <;> simp [h]
  rw [← htm] at h1 h2
  have ht2 : t = 0 ∨ t = 1 := by rw [ht]; split <;> simp
  generalize rst (u64 a) (u64 b) (k + 1) = r at *
  rw [h2, h1, wrap64_sub, wrap64_neg r r0 (by omega)]
  unfold nbelow
  rw [u64_wrap64]
  refine ⟨fun h => ?_, fun h => by simp; omega, fun h => ?_, fun h => ?_⟩
  · rw [Int.emod_eq_of_lt (by omega) (by omega)]; simp
  · rw [if_pos (by simpa using h)]
  · rw [if_neg (by simpa using h)]; congr 1; omega
set_option maxHeartbeats 4000000 in
theorem divide_c (a b : Int) (w : World) (a0 : -9223372036854775808 ≤ a) (a1 : a ≤ 9223372036854775807) (b0 : -9223372036854775808 ≤ b) (b1 : b ≤ 9223372036854775807) (hb : 0 < u64 b) :
    Calls Try.prog 107 #[.int .i64 a, .int .i64 b] w fun e w' => e = .returned (.tuple #[.int .i64 (wrap64 (u64 a / u64 b)), .int .i64 (wrap64 (u64 a % u64 b))]) ∧ Ext w w' := by
  go_enter Try.func107, Try.ntmps107
  go_wp2_with fail
  refine (bits_c a _ a0 a1).mono ?_
  rintro e w1 ⟨rfl, hx1⟩
  go_wp2_with ((with_reducible refine store_new (arr (tb a)) ?_ ?_ ?_ ?_ ?_ ?_); rfl; rfl; (simp [arr_size]); (rw [arr_size]; exact info64); exact arr_one _)
  rw [← arr_zero]
  go_loopw [8, 9] (fun r i wr => ∃ k : Nat, k ≤ 64 ∧ i = .int .i64 ((k : Int) - 1) ∧ r = .int .i64 (wrap64 (rst (u64 a) (u64 b) k)) ∧ Ext w wr ∧ Blk wr w1.heap.size 146 (arr (tb a)) ∧ Blk wr (w1.heap.size + 1) 146 (arr (hiFrom (tb (u64 a / u64 b)) k))) (fun _ i _ => (intOf i + 1).toNat)
  case atStart =>
    refine ⟨64, by omega, rfl, ?_, ?_, ?_, ?_⟩
    · rw [rst_top _ _ (u64_nonneg a) (u64_lt a)]; simp [wrap64]
    · exact (hx1.alloc _).alloc _
    · exact (Blk.new _ _ _).alloc _
    · rw [hiFrom_top]; have := Blk.new (w1.alloc (.cells (arr (tb a)) 146)) 146 (arr fun _ => false); simpa using this
  case round =>
    obtain ⟨k, hk, rfl, rfl, hx, hA, hZ⟩ := hrel
    have hs1 := hx1.size
    cases k with
    | succ k =>
      have hlt : k < 64 := by omega
      have hkk : ((k + 1 : Nat) : Int) - 1 = (k : Int) := by omega
      rw [hkk]
      have cA : wr.cell? ⟨w1.heap.size, k, none⟩ = some (.bool (tb a k)) := by rw [hA.cell, arr_get _ _ hlt]
      have cZ : wr.cell? ⟨w1.heap.size + 1, k, none⟩ = some (.bool (hiFrom (tb (u64 a / u64 b)) (k + 1) k)) := by rw [hZ.cell, arr_get _ _ hlt]
      have fZ := hZ.frozen k
      have Hn : Hid (tb (u64 a / u64 b) k = true → Ext w (wr.setCell ⟨w1.heap.size + 1, k, none⟩ (.bool true)) ∧ Blk (wr.setCell ⟨w1.heap.size + 1, k, none⟩ (.bool true)) w1.heap.size 146 (arr (tb a)) ∧ Blk (wr.setCell ⟨w1.heap.size + 1, k, none⟩ (.bool true)) (w1.heap.size + 1) 146 (arr (hiFrom (tb (u64 a / u64 b)) k))) := by
        intro hv
        refine ⟨hx.setCell (by simp; omega) _, hA.far (by simp) _, ?_⟩
        have := hZ.set_ k (.bool true)
        rwa [hiFrom_yes _ k hlt hv] at this
      have Hm : Hid (tb (u64 a / u64 b) k = false → Ext w wr ∧ Blk wr w1.heap.size 146 (arr (tb a)) ∧ Blk wr (w1.heap.size + 1) 146 (arr (hiFrom (tb (u64 a / u64 b)) k))) := by
        intro hv
        rw [hiFrom_no _ k hv] at hZ
        exact ⟨hx, hA, hZ⟩
      generalize hiFrom (tb (u64 a / u64 b)) (k + 1) k = old at cZ
      have htwo := wrap64_two (rst (u64 a) (u64 b) (k + 1))
      have hone := wrap64_one (2 * rst (u64 a) (u64 b) (k + 1))
      obtain ⟨n1, n2, n3, n4⟩ := div_next a b hb k hlt (if tb a k then 1 else 0) rfl
      clear hA hZ hx
      cases hbit : tb a k
      all_goals
        rw [hbit] at cA n1 n3 n4
        simp only [Bool.false_eq_true, if_false, if_true, Int.add_zero] at n1 n3 n4
        by_cases ho : wrap64 (rst (u64 a) (u64 b) (k + 1)) < 0
        · have q1 := n2 ho
          have HR := Lib.hid (n3 q1)
          have Q1 := Lib.hid q1
          clear n1 n2 n3 n4 q1 hbit
          go_wp2
          go_roundw
          case rel => exact ⟨k, by omega, by go_num, by rw [← HR.out], Hn.out Q1.out⟩
          case measure => first | (simp [intOf]; done) | (simp [intOf]; omega)
        · have q1 := n1 ho
          cases hq : tb (u64 a / u64 b) k
          · have HR := Lib.hid (n4 hq)
            have Q1 := Lib.hid hq
            have hnb := q1.2 hq
            clear n1 n2 n3 n4 q1 hbit hq
            go_wp2_with (go_at_call 79; refine (below_c _ b _ (by unfold wrap64; omega) (by unfold wrap64; omega) b0 b1).mono ?_; rintro e w' ⟨rfl, rfl⟩)
            go_roundw
            case rel => exact ⟨k, by omega, by go_num, by rw [← HR.out], Hm.out Q1.out⟩
            case measure => first | (simp [intOf]; done) | (simp [intOf]; omega)
          · have HR := Lib.hid (n3 hq)
            have Q1 := Lib.hid hq
            have hnb : nbelow (wrap64 (2 * rst (u64 a) (u64 b) (k + 1) + if tb a k = true then 1 else 0)) b = false := by
              rw [hbit]
              simp only [Bool.false_eq_true, if_false, if_true, Int.add_zero]
              rw [Bool.eq_false_iff]
              intro h
              rw [q1.1 h] at hq
              cases hq
            rw [hbit] at hnb
            simp only [Bool.false_eq_true, if_false, if_true, Int.add_zero] at hnb
            clear n1 n2 n3 n4 q1 hbit hq
            go_wp2_with (go_at_call 79; refine (below_c _ b _ (by unfold wrap64; omega) (by unfold wrap64; omega) b0 b1).mono ?_; rintro e w' ⟨rfl, rfl⟩)
            go_roundw
            case rel => exact ⟨k, by omega, by go_num, by rw [← HR.out], Hn.out Q1.out⟩
            case measure => first | (simp [intOf]; done) | (simp [intOf]; omega)
    | zero =>
      go_wp2_with (first | ((with_reducible refine load_all hZ ?_ Try.underlying146 ?_ ?_ ?_); rfl; rfl; (rw [arr_size]; exact info64)) | (go_at_call 113; refine (of_c _ _).mono ?_; rintro e w3 ⟨rfl, hx3⟩))
      go_ret2
      refine ⟨ret_v ?_, hx.trans hx3⟩
      have e1 : ofB (hiFrom (tb (u64 a / u64 b)) 0) = wrap64 (u64 a / u64 b) := by
        rw [← ofB_tb]
        exact ofB_congr fun i _ => by simp [hiFrom]
      have e2 : rst (u64 a) (u64 b) 0 = u64 a % u64 b := by unfold rst; simp
      rw [← e1, ← e2]
      rfl
set_option maxHeartbeats 1000000 in
theorem refHolds_c (c a b : Int) (w : World) (a0 : -9223372036854775808 ≤ a) (a1 : a ≤ 9223372036854775807) (b0 : -9223372036854775808 ≤ b) (b1 : b ≤ 9223372036854775807) :
    Calls Try.prog 46 #[.int .i64 c, .int .i64 a, .int .i64 b] w fun e w' => e = .returned (.bool (nholds c a b)) ∧ w = w' := by
  go_enter Try.func46, Try.ntmps46
  go_wp2_with (go_at_call 79; refine (below_c _ b _ a0 a1 b0 b1).mono ?_; rintro e w' ⟨rfl, rfl⟩)
  all_goals go_ret
  all_goals refine ⟨ret_b ?_, rfl⟩
  all_goals (rw [Bool.eq_iff_iff]; simp [nholds, nbelow]; grind)
theorem sh_sum (b : Int) : sumTo (tb b) 6 = (sh b : Int) := by
  rw [sumTo_tb]; unfold sh; omega
theorem u64_zero {b : Int} (b0 : -9223372036854775808 ≤ b) (b1 : b ≤ 9223372036854775807) : u64 b = 0 ↔ b = 0 := by unfold u64; omega
set_option maxHeartbeats 1000000 in
theorem refOp_bits (op a b : Int) (w : World) (hop : op = 4 ∨ op = 5 ∨ op = 6) (a0 : -9223372036854775808 ≤ a) (a1 : a ≤ 9223372036854775807) (b0 : -9223372036854775808 ≤ b) (b1 : b ≤ 9223372036854775807) :
    Calls Try.prog 80 #[.int .i64 op, .int .i64 a, .int .i64 b] w fun e w' => e = .returned (.int .i64 (nop op a b)) ∧ Ext w w' := by
  rcases hop with rfl | rfl | rfl
  all_goals
    go_enter Try.func80, Try.ntmps80
    go_wp2_with (go_at_call 104; refine (bitwise_c _ a b _ (by omega) a0 a1 b0 b1).mono ?_; rintro e w' ⟨rfl, hx⟩)
    go_ret
    refine ⟨ret_i ?_, hx⟩
    first | exact bitwise_and a b | exact bitwise_or a b | exact bitwise_xor a b
set_option maxHeartbeats 2000000 in
theorem refOp_div (op a b : Int) (w : World) (hop : op = 9 ∨ op = 10) (a0 : -9223372036854775808 ≤ a) (a1 : a ≤ 9223372036854775807) (b0 : -9223372036854775808 ≤ b) (b1 : b ≤ 9223372036854775807) :
    Calls Try.prog 80 #[.int .i64 op, .int .i64 a, .int .i64 b] w fun e w' => e = .returned (.int .i64 (nop op a b)) ∧ Ext w w' := by
  rcases hop with rfl | rfl
  all_goals
    by_cases hb : b = 0
    · subst hb
      go_enter Try.func80, Try.ntmps80
      go_wp2
      go_ret
      exact ⟨ret_i (by simp [nop, u64]), Ext.refl _⟩
    · have hz : ¬ u64 b = 0 := fun h => hb ((u64_zero b0 b1).1 h)
      have hp : 0 < u64 b := by have := u64_nonneg b; omega
      have Hz := Lib.hid hz
      have hbb : (b == 0) = false := by simpa using hb
      clear hz hb
      go_enter Try.func80, Try.ntmps80
      go_wp2_with (go_at_call 107; refine (divide_c a b _ a0 a1 b0 b1 hp).mono ?_; rintro e w' ⟨rfl, hx⟩)
      go_ret
      refine ⟨ret_i ?_, hx⟩
      have := Hz.out
      simp [nop, this]
set_option maxHeartbeats 2000000 in
theorem refOp_shift (op a b : Int) (w : World) (hop : op = 7 ∨ op = 8) (a0 : -9223372036854775808 ≤ a) (a1 : a ≤ 9223372036854775807) (b0 : -9223372036854775808 ≤ b) (b1 : b ≤ 9223372036854775807) :
    Calls Try.prog 80 #[.int .i64 op, .int .i64 a, .int .i64 b] w fun e w' => e = .returned (.int .i64 (nop op a b)) ∧ Ext w w' := by
  rcases hop with rfl | rfl
  all_goals
    go_enter Try.func80, Try.ntmps80
    go_wp2_with fail
    refine (bits_c b _ b0 b1).mono ?_
    rintro e w1 ⟨rfl, hx1⟩
    go_wp2_with ((with_reducible refine store_new (arr (tb b)) ?_ ?_ ?_ ?_ ?_ ?_); rfl; rfl; (simp [arr_size]); (rw [arr_size]; exact info64); exact arr_one _)
    go_loopw [8, 9, 10] (fun s p i wr => ∃ k : Nat, k ≤ 6 ∧ i = .int .i64 k ∧ s = .int .i64 (sumTo (tb b) k) ∧ p = .int .i64 (2 ^ k) ∧ Ext w wr ∧ Blk wr w1.heap.size 146 (arr (tb b))) (fun _ _ i _ => 6 - (intOf i).toNat)
    case atStart => exact ⟨0, by omega, rfl, by simp [sumTo], by simp, hx1.alloc _, Blk.new _ _ _⟩
    case round =>
      obtain ⟨k, hk, rfl, rfl, rfl, hx, hA⟩ := hrel
      by_cases hlt : k < 6
      · have cA : wr.cell? ⟨w1.heap.size, k, none⟩ = some (.bool (tb b k)) := by rw [hA.cell, arr_get _ _ (by omega)]
        have hp0 := pow_pos' k
        have hp1 : (2 : Int) ^ k ≤ 32 := by
          have : k = 0 ∨ k = 1 ∨ k = 2 ∨ k = 3 ∨ k = 4 ∨ k = 5 := by omega
          rcases this with rfl | rfl | rfl | rfl | rfl | rfl <;> decide
        have hs0 : 0 ≤ sumTo (tb b) k := by rw [sumTo_tb]; exact Int.emod_nonneg _ (by omega)
        have hs1 : sumTo (tb b) k < 2 ^ k := by rw [sumTo_tb]; exact Int.emod_lt_of_pos _ hp0
        have Hp : Hid ((2 : Int) ^ k + 2 ^ k = 2 ^ (k + 1)) := by show _ = _; rw [Int.pow_succ]; omega
        have Hk : Hid (Ext w wr ∧ Blk wr w1.heap.size 146 (arr (tb b))) := ⟨hx, hA⟩
        have Hs : Hid (sumTo (tb b) (k + 1) = sumTo (tb b) k + if tb b k then 2 ^ k else 0) := rfl
        clear hx hA hx1
        generalize (2 : Int) ^ k = p at *
        generalize sumTo (tb b) k = s at *
        cases hbit : tb b k
        all_goals
          rw [hbit] at cA Hs
          clear hbit
          go_wp2
          go_roundw
          case rel => exact ⟨k + 1, by omega, by go_num, by rw [Hs.out]; simp, by rw [Hp.out], Hk.out.1, Hk.out.2⟩
          case measure => first | (simp [intOf]; done) | (simp [intOf]; omega)
      · obtain rfl : k = 6 := by omega
        have hs := sh_sum b
        have hl := sh_lt b
        clear hlt hk
        rw [hs]
        clear hs
        go_wp2_with (go_at_call 106; refine (shift_c a _ _ (by omega) (by omega) a0 a1).mono ?_; rintro e w3 ⟨rfl, hx3⟩)
        go_ret
        refine ⟨ret_i ?_, hx.trans hx3⟩
        first | exact shl_is a (sh b) hl | exact shr_is a (sh b) hl
set_option maxHeartbeats 2000000 in
theorem refOp_c (op a b : Int) (w : World) (a0 : -9223372036854775808 ≤ a) (a1 : a ≤ 9223372036854775807) (b0 : -9223372036854775808 ≤ b) (b1 : b ≤ 9223372036854775807) :
    Calls Try.prog 80 #[.int .i64 op, .int .i64 a, .int .i64 b] w fun e w' => e = .returned (.int .i64 (nop op a b)) ∧ Ext w w' := by
  by_cases h4 : op = 4 ∨ op = 5 ∨ op = 6
  · exact refOp_bits op a b w h4 a0 a1 b0 b1
  by_cases h7 : op = 7 ∨ op = 8
  · exact refOp_shift op a b w h7 a0 a1 b0 b1
  by_cases h9 : op = 9 ∨ op = 10
  · exact refOp_div op a b w h9 a0 a1 b0 b1
  have q4 : (op == 4) = false := by rw [beq_eq_false_iff_ne]; omega
  have q5 : (op == 5) = false := by rw [beq_eq_false_iff_ne]; omega
  have q6 : (op == 6) = false := by rw [beq_eq_false_iff_ne]; omega
  have q7 : (op == 7) = false := by rw [beq_eq_false_iff_ne]; omega
  have q8 : (op == 8) = false := by rw [beq_eq_false_iff_ne]; omega
  have q9 : (op == 9) = false := by rw [beq_eq_false_iff_ne]; omega
  have q10 : (op == 10) = false := by rw [beq_eq_false_iff_ne]; omega
  clear h4 h7 h9
  go_enter Try.func80, Try.ntmps80
  go_wp2
  all_goals go_ret
  all_goals refine ⟨ret_i ?_, Ext.refl _⟩
  all_goals simp_all [nop]
end Go.Proofs.Ytiiollmbogojoaa
