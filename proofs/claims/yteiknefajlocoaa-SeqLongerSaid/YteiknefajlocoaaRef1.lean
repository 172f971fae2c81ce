/- The reference's numbers: walks. -/
import Derived.Test.YteiknefajlocoaaNum
import Derived.Test.YteiknefajlocoaaRef1P
namespace Go.Proofs.Yteiknefajlocoaa
open Go.ChangeShapes Go.WideShapes Go.ChangeAt Go.RowKit

theorem info64 : (Try.prog.info? 165).map (·.size) = some 64 := by kernel_rfl

set_option maxHeartbeats 1000000 in
theorem bits_c (n : Int) (w : World) (h0 : -9223372036854775808 ≤ n) (h1 : n ≤ 9223372036854775807) :
    Calls Try.prog 131 #[.int .i64 n] w fun e w' => e = .returned (.agg (arr (tb n))) ∧ Ext w w' := by
  go_enter Try.func131, Try.ntmps131
  go_wp2
  rw [← arr_zero]
  go_loopw [0, 4] (fun v i wr => ∃ k : Nat, k ≤ 64 ∧ i = .int .i64 k ∧ v = .int .i64 (n / 2 ^ k) ∧ Below w.heap.size w wr ∧ Blk wr w.heap.size 165 (arr (fun _ => false)) ∧ Blk wr (w.heap.size + 1) 165 (arr (bitsTo n k))) (fun _ i _ => 64 - (intOf i).toNat)
  case atStart =>
    refine ⟨0, by omega, rfl, by simp, ?_, ?_, ?_⟩
    · exact ((Ext.refl _).alloc _).alloc _
    · exact (Blk.new _ _ _).alloc _
    · rw [bitsTo_zero]; have := Blk.new (w.alloc (.cells (arr fun _ => false) 165)) 165 (arr fun _ => false); simpa using this
  case round =>
    obtain ⟨k, hk, rfl, rfl, hb, hz, hl⟩ := hrel
    have hnn := half n k
    obtain ⟨hb0, hb1⟩ := half_bd n k h0 h1
    by_cases hlt : k < 64
    · have hcell : wr.cell? ⟨w.heap.size + 1, k, none⟩ = some (.bool (bitsTo n k k)) := by rw [hl.cell, arr_get _ _ hlt]
      have hfz := hl.frozen k
      have htb : tb n k = decide (n / 2 ^ k % 2 = 1) := rfl
      generalize n / 2 ^ k = m at *
      have Hnn := Lib.hid hnn
      have Htb := Lib.hid htb
      clear hnn htb
      have hstep : ∀ b : Bool, b = decide (m % 2 = 1) → Blk (wr.setCell ⟨w.heap.size + 1, k, none⟩ (.bool b)) (w.heap.size + 1) 165 (arr (bitsTo n (k + 1))) := fun b hb => by
        have := hl.set_ k (.bool b)
        rwa [bitsTo_succ n k hlt b (by rw [hb, Htb.out])] at this
      have hz' : ∀ b : Bool, Blk (wr.setCell ⟨w.heap.size + 1, k, none⟩ (.bool b)) w.heap.size 165 (arr fun _ => false) := fun b => hz.far (by simp) _
      have hb' : ∀ b : Bool, Below w.heap.size w (wr.setCell ⟨w.heap.size + 1, k, none⟩ (.bool b)) := fun b => hb.setCell (by simp) _
      have Hs := Lib.hid hstep
      have Hz := Lib.hid hz'
      have Hb := Lib.hid hb'
      clear hstep hz' hb' hz hl hb
      by_cases hp : m % 2 = 0
      · have ht := tmod2_even m hp
        have hd := tdiv2_even m hp
        go_wp2
        go_roundw
        case rel => exact ⟨k + 1, by omega, by go_num, by rw [← Hnn.out], Hb.out _, Hz.out _, Hs.out _ (by simp; omega)⟩
        case measure => simp [intOf]; omega
      · by_cases hs : 0 ≤ m
        · have ht := tmod2_pos m hp hs
          have hd := tdiv2_even (m - 1) (by omega)
          have hr : (m - 1) / 2 = m / 2 := by omega
          go_wp2
          go_roundw
          case rel => exact ⟨k + 1, by omega, by go_num, by rw [← Hnn.out], Hb.out _, Hz.out _, Hs.out _ (by simp; omega)⟩
          case measure => simp [intOf]; omega
        · have ht := tmod2_neg m hp hs
          have hd := tdiv2_even (m - 1) (by omega)
          have hr : (m - 1) / 2 = m / 2 := by omega
          go_wp2
          go_roundw
          case rel => exact ⟨k + 1, by omega, by go_num, by rw [← Hnn.out], Hb.out _, Hz.out _, Hs.out _ (by simp; omega)⟩
          case measure => simp [intOf]; omega
    · have : k = 64 := by omega
      subst this
      clear hnn hlt
      go_wp2_with (first | ((with_reducible refine load_all hl ?_ Try.underlying165 ?_ ?_ ?_); rfl; rfl; (rw [arr_size]; exact info64)) | ((with_reducible refine store_all hz (arr (bitsTo n 64)) ?_ ?_ ?_ ?_ ?_ ?_); rfl; rfl; (simp [arr_size]); (rw [arr_size]; exact info64); exact arr_one _))
      exact bodyPost_ret (results_blk (hz.stored (arr (bitsTo n 64)) (by simp [arr_size])) rfl _ rfl Try.underlying165 rfl (by rw [arr_size]; exact info64)) rfl ⟨ret_v (by rw [bitsTo_all]), below_setCells _ hb (Nat.le_refl _) 0⟩

set_option maxHeartbeats 1000000 in
theorem of_c (f : Nat → Bool) (w : World) :
    Calls Try.prog 147 #[.agg (arr f)] w fun e w' => e = .returned (.int .i64 (ofB f)) ∧ Ext w w' := by
  go_enter Try.func147, Try.ntmps147
  go_wp2
  go_loop [3, 4, 5] (fun s p i => ∃ k : Nat, k ≤ 64 ∧ i = .int .i64 k ∧ s = .int .i64 (wrap64 (sumTo f k)) ∧ p = .int .i64 (wrap64 (2 ^ k))) (fun _ _ i => 64 - (intOf i).toNat)
  case atStart => exact ⟨0, by omega, rfl, by simp [sumTo, wrap64], by simp [wrap64]⟩
  case round =>
    obtain ⟨k, hk, rfl, rfl, rfl⟩ := hrel
    by_cases hlt : k < 64
    · have hget := arr_at f k
      have hsz := arr_size f
      by_cases hb : f k = true
      · go_wp2
        go_round
        case rel => exact ⟨k + 1, by omega, by go_num, by rw [← sum_yes f k hb], by rw [← pow_yes]⟩
        case measure => simp [intOf]; omega
      · have hb' : f k = false := by simpa using hb
        have Hsum := Lib.hid (sum_no f k hb')
        clear hb
        go_wp2
        go_round
        case rel => exact ⟨k + 1, by omega, by go_num, by rw [← Hsum.out], by rw [← pow_yes]⟩
        case measure => simp [intOf]; omega
    · obtain rfl : k = 64 := by omega
      clear hlt
      go_wp2
      go_ret
      exact ⟨rfl, (Ext.refl _).alloc _⟩

set_option maxHeartbeats 2000000 in
theorem bitwise_c (op a b : Int) (w : World) (hop : op = 4 ∨ op = 5 ∨ op = 6) (a0 : -9223372036854775808 ≤ a) (a1 : a ≤ 9223372036854775807) (b0 : -9223372036854775808 ≤ b) (b1 : b ≤ 9223372036854775807) :
    Calls Try.prog 130 #[.int .i64 op, .int .i64 a, .int .i64 b] w fun e w' => e = .returned (.int .i64 (ofB fun i => bop op (tb a i) (tb b i))) ∧ Ext w w' := by
  rcases hop with rfl | rfl | rfl
  all_goals
    generalize hF : (fun i => bop _ (tb a i) (tb b i)) = F
    have HF := Lib.hid hF
    clear hF
    go_enter Try.func130, Try.ntmps130
    go_wp2_with fail
    refine (bits_c a _ a0 a1).mono ?_
    rintro e w1 ⟨rfl, hx1⟩
    go_wp2_with ((with_reducible refine store_new (arr (tb a)) ?_ ?_ ?_ ?_ ?_ ?_); rfl; rfl; (simp [arr_size]); (rw [arr_size]; exact info64); exact arr_one _)
    refine (bits_c b _ b0 b1).mono ?_
    rintro e w2 ⟨rfl, hx2⟩
    go_wp2_with ((with_reducible refine store_new (arr (tb b)) ?_ ?_ ?_ ?_ ?_ ?_); rfl; rfl; (simp [arr_size]); (rw [arr_size]; exact info64); exact arr_one _)
    rw [← arr_zero]
    go_loopw [10] (fun i wr => ∃ k : Nat, k ≤ 64 ∧ i = .int .i64 k ∧ Ext w wr ∧ Blk wr w1.heap.size 165 (arr (tb a)) ∧ Blk wr w2.heap.size 165 (arr (tb b)) ∧ Blk wr (w2.heap.size + 1) 165 (arr (fillTo F k))) (fun i _ => 64 - (intOf i).toNat)
    case atStart =>
      refine ⟨0, by omega, rfl, ?_, ?_, ?_, ?_⟩
      · exact ((((Ext.trans hx1 ((Ext.refl _).alloc _)).trans hx2).alloc _).alloc _)
      · exact (((Blk.new _ _ _).ext hx2).alloc _).alloc _
      · exact (Blk.new _ _ _).alloc _
      · rw [fillTo_zero]; have := Blk.new (w2.alloc (.cells (arr (tb b)) 165)) 165 (arr fun _ => false); simpa using this
    case round =>
      obtain ⟨k, hk, rfl, hx, hA, hB, hZ⟩ := hrel
      have hs1 := hx1.size
      have hs2 := hx2.size
      simp only [World.size_alloc] at hs2
      by_cases hlt : k < 64
      · have cA : wr.cell? ⟨w1.heap.size, k, none⟩ = some (.bool (tb a k)) := by rw [hA.cell, arr_get _ _ hlt]
        have cB : wr.cell? ⟨w2.heap.size, k, none⟩ = some (.bool (tb b k)) := by rw [hB.cell, arr_get _ _ hlt]
        have cZ : wr.cell? ⟨w2.heap.size + 1, k, none⟩ = some (.bool (fillTo F k k)) := by rw [hZ.cell, arr_get _ _ hlt]
        have fZ := hZ.frozen k
        have Hn : Hid (∀ v : Bool, v = F k → Ext w (wr.setCell ⟨w2.heap.size + 1, k, none⟩ (.bool v)) ∧ Blk (wr.setCell ⟨w2.heap.size + 1, k, none⟩ (.bool v)) w1.heap.size 165 (arr (tb a)) ∧ Blk (wr.setCell ⟨w2.heap.size + 1, k, none⟩ (.bool v)) w2.heap.size 165 (arr (tb b)) ∧ Blk (wr.setCell ⟨w2.heap.size + 1, k, none⟩ (.bool v)) (w2.heap.size + 1) 165 (arr (fillTo F (k + 1)))) := by
          intro v hv
          refine ⟨hx.setCell (by simp; omega) _, hA.far (by simp; omega) _, hB.far (by simp) _, ?_⟩
          have := hZ.set_ k (.bool v)
          rwa [fillTo_succ F k hlt v hv] at this
        clear hA hB hZ hx hx1 hx2
        have hFk := congrFun HF.out k
        generalize fillTo F k k = old at cZ
        cases hAk : tb a k <;> cases hBk : tb b k
        all_goals
          rw [hAk, hBk] at hFk
          rw [hAk] at cA
          rw [hBk] at cB
          have HFk := Lib.hid hFk
          clear hFk hAk hBk
          go_wp2
          try go_region
          try go_wp2
          go_roundw
          case rel =>
            have hn := Hn.out _ HFk.out
            first
              | exact ⟨k + 1, by omega, by go_num, hn⟩
              | exact ⟨k + 1, by omega, by go_num, hn.1.drew, hn.2.1.drew, hn.2.2.1.drew, hn.2.2.2.drew⟩
          case measure => simp [intOf]; omega
      · obtain rfl : k = 64 := by omega
        clear hlt
        go_wp2_with (first | ((with_reducible refine load_all hZ ?_ Try.underlying165 ?_ ?_ ?_); rfl; rfl; (rw [arr_size]; exact info64)) | (go_at_call 147; refine (of_c _ _).mono ?_; rintro e w3 ⟨rfl, hx3⟩))
        go_ret
        exact ⟨ret_i (ofB_fill F), hx.trans hx3⟩

set_option maxHeartbeats 1000000 in
theorem below_c (a b : Int) (w : World) (a0 : -9223372036854775808 ≤ a) (a1 : a ≤ 9223372036854775807) (b0 : -9223372036854775808 ≤ b) (b1 : b ≤ 9223372036854775807) :
    Calls Try.prog 101 #[.int .i64 a, .int .i64 b] w fun e w' => e = .returned (.bool (nbelow a b)) ∧ w = w' := by
  have hn := nbelow_other a0 a1 b0 b1
  have Hn := Lib.hid hn
  clear hn
  by_cases ha : a < 0 <;> by_cases hb : b < 0
  all_goals
    go_enter Try.func101, Try.ntmps101
    go_wp2
    go_ret
    exact ⟨ret_b (by rw [Hn.out]; first | (simp [ha, hb]; done) | (simp; omega)), rfl⟩

set_option maxHeartbeats 2000000 in
theorem shift_c (a s : Int) (w : World) (s0 : -63 ≤ s) (s1 : s ≤ 63) (a0 : -9223372036854775808 ≤ a) (a1 : a ≤ 9223372036854775807) :
    Calls Try.prog 132 #[.int .i64 a, .int .i64 s] w fun e w' => e = .returned (.int .i64 (ofB (mv (tb a) s))) ∧ Ext w w' := by
  go_enter Try.func132, Try.ntmps132
  go_wp2_with fail
  refine (bits_c a _ a0 a1).mono ?_
  rintro e w1 ⟨rfl, hx1⟩
  go_wp2_with ((with_reducible refine store_new (arr (tb a)) ?_ ?_ ?_ ?_ ?_ ?_); rfl; rfl; (simp [arr_size]); (rw [arr_size]; exact info64); exact arr_one _)
  rw [← arr_zero]
  go_loopw [7] (fun i wr => ∃ k : Nat, k ≤ 64 ∧ i = .int .i64 k ∧ Ext w wr ∧ Blk wr w1.heap.size 165 (arr (tb a)) ∧ Blk wr (w1.heap.size + 1) 165 (arr (fillTo (mv (tb a) s) k))) (fun i _ => 64 - (intOf i).toNat)
  case atStart =>
    refine ⟨0, by omega, rfl, ?_, ?_, ?_⟩
    · exact (hx1.alloc _).alloc _
    · exact (Blk.new _ _ _).alloc _
    · rw [fillTo_zero]; have := Blk.new (w1.alloc (.cells (arr (tb a)) 165)) 165 (arr fun _ => false); simpa using this
  case round =>
    obtain ⟨k, hk, rfl, hx, hA, hZ⟩ := hrel
    have hs1 := hx1.size
    by_cases hlt : k < 64
    · have cZ : wr.cell? ⟨w1.heap.size + 1, k, none⟩ = some (.bool (fillTo (mv (tb a) s) k k)) := by rw [hZ.cell, arr_get _ _ hlt]
      have fZ := hZ.frozen k
      have Hn : Hid (∀ v : Bool, v = mv (tb a) s k → Ext w (wr.setCell ⟨w1.heap.size + 1, k, none⟩ (.bool v)) ∧ Blk (wr.setCell ⟨w1.heap.size + 1, k, none⟩ (.bool v)) w1.heap.size 165 (arr (tb a)) ∧ Blk (wr.setCell ⟨w1.heap.size + 1, k, none⟩ (.bool v)) (w1.heap.size + 1) 165 (arr (fillTo (mv (tb a) s) (k + 1)))) := by
        intro v hv
        refine ⟨hx.setCell (by simp; omega) _, hA.far (by simp) _, ?_⟩
        have := hZ.set_ k (.bool v)
        rwa [fillTo_succ _ k hlt v hv] at this
      have Hz : Hid (mv (tb a) s k = false → arr (fillTo (mv (tb a) s) k) = arr (fillTo (mv (tb a) s) (k + 1))) := fun h => arr_congr fun i _ => by
        unfold fillTo
        by_cases e : i = k
        · subst e; simp [h]
        · congr 1; simp; omega
      have HZ := Lib.hid hZ
      generalize fillTo (mv (tb a) s) k k = old at cZ
      by_cases h0 : 0 ≤ (k : Int) - s
      · by_cases h1 : (k : Int) - s < 64
        · obtain ⟨j, hj⟩ := Int.eq_ofNat_of_zero_le h0
          have hjl : j < 64 := by omega
          have cA : wr.cell? ⟨w1.heap.size, j, none⟩ = some (.bool (tb a j)) := by rw [hA.cell, arr_get _ _ hjl]
          have hv : tb a j = mv (tb a) s k := by unfold mv; rw [hj]; simp; omega
          have Hv := Lib.hid hv
          clear hZ hA hx hv
          go_wp2
          go_roundw
          case rel => exact ⟨k + 1, by omega, by go_num, Hn.out _ Hv.out⟩
          case measure => simp [intOf]; omega
        · have hv : mv (tb a) s k = false := by unfold mv; simp; omega
          have Hv := Lib.hid hv
          have Hk : Hid (Ext w wr ∧ Blk wr w1.heap.size 165 (arr (tb a))) := ⟨hx, hA⟩
          clear hZ hA hx hv
          go_wp2
          go_roundw
          case rel => exact ⟨k + 1, by omega, by go_num, Hk.out.1, Hk.out.2, by rw [← Hz.out Hv.out]; exact HZ.out⟩
          case measure => simp [intOf]; omega
      · have hv : mv (tb a) s k = false := by unfold mv; simp; omega
        have Hv := Lib.hid hv
        have Hk : Hid (Ext w wr ∧ Blk wr w1.heap.size 165 (arr (tb a))) := ⟨hx, hA⟩
        clear hZ hA hx hv
        go_wp2
        go_roundw
        case rel => exact ⟨k + 1, by omega, by go_num, Hk.out.1, Hk.out.2, by rw [← Hz.out Hv.out]; exact HZ.out⟩
        case measure => simp [intOf]; omega
    · obtain rfl : k = 64 := by omega
      clear hlt
      go_wp2_with (first | ((with_reducible refine load_all hZ ?_ Try.underlying165 ?_ ?_ ?_); rfl; rfl; (rw [arr_size]; exact info64)) | (go_at_call 147; refine (of_c _ _).mono ?_; rintro e w3 ⟨rfl, hx3⟩))
      go_ret
      exact ⟨ret_i (ofB_fill _), hx.trans hx3⟩
end Go.Proofs.Yteiknefajlocoaa
