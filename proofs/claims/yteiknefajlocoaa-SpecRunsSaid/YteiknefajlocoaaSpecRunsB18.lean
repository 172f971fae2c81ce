/- Laid together from: Num, Ref1, Ref1b. -/
import Derived.Test.YteiknefajlocoaaProg
import Derived.Test.YteiknefajlocoaaSpecRunsB4
import Derived.Test.YteiknefajlocoaaSpecRunsB6
import Derived.WalkLawsBesides
import Derived.WalkSpells
import Derived.Outline
import Derived.Test.YteiknefajlocoaaSpecRunsB11

namespace Go.Proofs.Yteiknefajlocoaa
open Go.ChangeShapes Go.WideShapes Go.ChangeAt Go.RowKit
set_option maxHeartbeats 1000000 in
theorem Q82 (op a b : Int) (w : World) :
  Calls Try.prog 137 #[.int .i64 op, .int .i64 a, .int .i64 b] w fun e w' => e = .returned (.int .i64 (nop op a b)) ∧ w = w' := by
 have H63 := and63' b
 have hu := Q5k b
 have hua := Q5k a
 go_enter Try.func137, Try.ntmps137
 go_wp2
 all_goals first
  | (exfalso; simp_all; done)
  | (go_ret; refine ⟨Q12 ?_, rfl⟩; simp_all [nop, Qd6, Qbi, Qbv, Qbu])
theorem Qh6 (c op : Int) (is : Bool) (p : Addr) (w : World) (hc : w.cell? p = some (.int .i64 op)) :
  Calls Try.prog 134 #[.int .i64 c, .bool is, .pointer (some p)] w fun e w' => e = .returned (.bool (c == op && is)) ∧ w = w' := by
 go_enter Try.func134, Try.ntmps134
 go_wp2
 all_goals go_ret
 all_goals exact ⟨Q04 (by simp_all), rfl⟩
set_option maxHeartbeats 1000000 in
theorem Qao (op a b : Int) (w : World) :
  Calls Try.prog 106 #[.int .i64 op, .int .i64 a, .int .i64 b] w fun e w' => e = .returned (.bool (Q40 op a b)) ∧ Ext w w' := by
 have hu := Q5k b
 have hua := Q5k a
 have hmf : ∀ (fn : Fn) (first cap : Array Value) (w : World), (Instr.makeFunc fn first cap).run Try.prog w = .ok (.func fn first cap) w := fun _ _ _ _ => rfl
 go_enter Try.func106, Try.ntmps106
 go_wp2_with (go_at_call 134; refine (Qh6 _ op _ _ _ (by go_cell)).mono ?_; rintro e w' ⟨rfl, rfl⟩)
 all_goals go_ret
 all_goals refine ⟨Q04 ?_, (Ext.refl _).alloc _⟩
 all_goals (rw [Bool.eq_iff_iff]; simp [Q40]; grind)
theorem Q3b : (Try.prog.info? 165).map (·.size) = some 64 := by kernel_rfl
set_option maxHeartbeats 1000000 in
theorem Q62 (n : Int) (w : World) (h0 : -9223372036854775808 ≤ n) (h1 : n ≤ 9223372036854775807) :
  Calls Try.prog 131 #[.int .i64 n] w fun e w' => e = .returned (.agg (arr (tb n))) ∧ Ext w w' := by
 go_enter Try.func131, Try.ntmps131
 go_wp2
 rw [← Q6x]
 go_loopw [0, 4] (fun v i wr => ∃ k : Nat, k ≤ 64 ∧ i = .int .i64 k ∧ v = .int .i64 (n / 2 ^ k) ∧ Below w.heap.size w wr ∧ Blk wr w.heap.size 165 (arr (fun _ => false)) ∧ Blk wr (w.heap.size + 1) 165 (arr (Q2c n k))) (fun _ i _ => 64 - (intOf i).toNat)
 case atStart =>
  refine ⟨0, by omega, rfl, by simp, ?_, ?_, ?_⟩
  ·exact ((Ext.refl _).alloc _).alloc _
  ·exact (Blk.new _ _ _).alloc _
  ·rw [Qi4]; have := Blk.new (w.alloc (.cells (arr fun _ => false) 165)) 165 (arr fun _ => false); simpa using this
 case round =>
  obtain ⟨k, hk, rfl, rfl, hb, hz, hl⟩ := hrel
  have hnn := half n k
  obtain ⟨hb0, hb1⟩ := Qhf n k h0 h1
  by_cases hlt : k < 64
  ·have hcell : wr.cell? ⟨w.heap.size + 1, k, none⟩ = some (.bool (Q2c n k k)) := by rw [hl.cell, Q32 _ _ hlt]
   have hfz := hl.frozen k
   have htb : tb n k = decide (n / 2 ^ k % 2 = 1) := rfl
   generalize n / 2 ^ k = m at *
   have Hnn := Lib.hid hnn
   have Htb := Lib.hid htb
   clear hnn htb
   have hstep : ∀ b : Bool, b = decide (m % 2 = 1) → Blk (wr.setCell ⟨w.heap.size + 1, k, none⟩ (.bool b)) (w.heap.size + 1) 165 (arr (Q2c n (k + 1))) := fun b hb => by
    have := hl.set_ k (.bool b)
    rwa [Qi5 n k hlt b (by rw [hb, Htb.out])] at this
   have hz' : ∀ b : Bool, Blk (wr.setCell ⟨w.heap.size + 1, k, none⟩ (.bool b)) w.heap.size 165 (arr fun _ => false) := fun b => hz.far (by simp) _
   have hb' : ∀ b : Bool, Below w.heap.size w (wr.setCell ⟨w.heap.size + 1, k, none⟩ (.bool b)) := fun b => hb.setCell (by simp) _
   have Hs := Lib.hid hstep
   have Hz := Lib.hid hz'
   have Hb := Lib.hid hb'
   clear hstep hz' hb' hz hl hb
   by_cases hp : m % 2 = 0
   ·have ht := Qc1 m hp
    have hd := Q77 m hp
    go_wp2
    go_roundw
    case rel => exact ⟨k + 1, by omega, by go_num, by rw [← Hnn.out], Hb.out _, Hz.out _, Hs.out _ (by simp; omega)⟩
    case measure => simp [intOf]; omega
   ·by_cases hs : 0 ≤ m
    ·have ht := Qbz m hp hs
     have hd := Q77 (m - 1) (by omega)
     have hr : (m - 1) / 2 = m / 2 := by omega
     go_wp2
     go_roundw
     case rel => exact ⟨k + 1, by omega, by go_num, by rw [← Hnn.out], Hb.out _, Hz.out _, Hs.out _ (by simp; omega)⟩
     case measure => simp [intOf]; omega
    ·have ht := Qc0 m hp hs
     have hd := Q77 (m - 1) (by omega)
     have hr : (m - 1) / 2 = m / 2 := by omega
     go_wp2
     go_roundw
     case rel => exact ⟨k + 1, by omega, by go_num, by rw [← Hnn.out], Hb.out _, Hz.out _, Hs.out _ (by simp; omega)⟩
     case measure => simp [intOf]; omega
  ·have : k = 64 := by omega
   subst this
   clear hnn hlt
   go_wp2_with (first | ((with_reducible refine Q5w hl ?_ Try.underlying165 ?_ ?_ ?_); rfl; rfl; (rw [Q1z]; exact Q3b)) | ((with_reducible refine Q69 hz (arr (Q2c n 64)) ?_ ?_ ?_ ?_ ?_ ?_); rfl; rfl; (simp [Q1z]); (rw [Q1z]; exact Q3b); exact Q5e _))
   exact bodyPost_ret (Q5r (hz.stored (arr (Q2c n 64)) (by simp [Q1z])) rfl _ rfl Try.underlying165 rfl (by rw [Q1z]; exact Q3b)) rfl ⟨Q9v (by rw [Qi6]), Qi7 _ hb (Nat.le_refl _) 0⟩
set_option maxHeartbeats 1000000 in
theorem of_c (f : Nat → Bool) (w : World) :
  Calls Try.prog 147 #[.agg (arr f)] w fun e w' => e = .returned (.int .i64 (ofB f)) ∧ Ext w w' := by
 go_enter Try.func147, Try.ntmps147
 go_wp2
 go_loop [3, 4, 5] (fun s p i => ∃ k : Nat, k ≤ 64 ∧ i = .int .i64 k ∧ s = .int .i64 (wrap64 (Q14 f k)) ∧ p = .int .i64 (wrap64 (2 ^ k))) (fun _ _ i => 64 - (intOf i).toNat)
 case atStart => exact ⟨0, by omega, rfl, by simp [Q14, wrap64], by simp [wrap64]⟩
 case round =>
  obtain ⟨k, hk, rfl, rfl, rfl⟩ := hrel
  by_cases hlt : k < 64
  ·have hget := Qie f k
   have hsz := Q1z f
   by_cases hb : f k = true
   ·go_wp2
    go_round
    case rel => exact ⟨k + 1, by omega, by go_num, by rw [← Qc7 f k hb], by rw [← Qab]⟩
    case measure => simp [intOf]; omega
   ·have hb' : f k = false := by simpa using hb
    have Hsum := Lib.hid (Qc8 f k hb')
    clear hb
    go_wp2
    go_round
    case rel => exact ⟨k + 1, by omega, by go_num, by rw [← Hsum.out], by rw [← Qab]⟩
    case measure => simp [intOf]; omega
  ·obtain rfl : k = 64 := by omega
   clear hlt
   go_wp2
   go_ret
   exact ⟨rfl, (Ext.refl _).alloc _⟩
set_option maxHeartbeats 2000000 in
theorem Qi1 (op a b : Int) (w : World) (hop : op = 4 ∨ op = 5 ∨ op = 6) (a0 : -9223372036854775808 ≤ a) (a1 : a ≤ 9223372036854775807) (b0 : -9223372036854775808 ≤ b) (b1 : b ≤ 9223372036854775807) :
  Calls Try.prog 130 #[.int .i64 op, .int .i64 a, .int .i64 b] w fun e w' => e = .returned (.int .i64 (ofB fun i => bop op (tb a i) (tb b i))) ∧ Ext w w' := by
 rcases hop with rfl | rfl | rfl
 all_goals
  generalize hF : (fun i => bop _ (tb a i) (tb b i)) = F
  have HF := Lib.hid hF
  clear hF
  go_enter Try.func130, Try.ntmps130
  go_wp2_with fail
  refine (Q62 a _ a0 a1).mono ?_
  rintro e w1 ⟨rfl, hx1⟩
  go_wp2_with ((with_reducible refine Q5m (arr (tb a)) ?_ ?_ ?_ ?_ ?_ ?_); rfl; rfl; (simp [Q1z]); (rw [Q1z]; exact Q3b); exact Q5e _)
  refine (Q62 b _ b0 b1).mono ?_
  rintro e w2 ⟨rfl, hx2⟩
  go_wp2_with ((with_reducible refine Q5m (arr (tb b)) ?_ ?_ ?_ ?_ ?_ ?_); rfl; rfl; (simp [Q1z]); (rw [Q1z]; exact Q3b); exact Q5e _)
  rw [← Q6x]
  go_loopw [10] (fun i wr => ∃ k : Nat, k ≤ 64 ∧ i = .int .i64 k ∧ Ext w wr ∧ Blk wr w1.heap.size 165 (arr (tb a)) ∧ Blk wr w2.heap.size 165 (arr (tb b)) ∧ Blk wr (w2.heap.size + 1) 165 (arr (Q1m F k))) (fun i _ => 64 - (intOf i).toNat)
  case atStart =>
   refine ⟨0, by omega, rfl, ?_, ?_, ?_, ?_⟩
   ·exact ((((Ext.trans hx1 ((Ext.refl _).alloc _)).trans hx2).alloc _).alloc _)
   ·exact (((Blk.new _ _ _).ext hx2).alloc _).alloc _
   ·exact (Blk.new _ _ _).alloc _
   ·rw [Qb5]; have := Blk.new (w2.alloc (.cells (arr (tb b)) 165)) 165 (arr fun _ => false); simpa using this
  case round =>
   obtain ⟨k, hk, rfl, hx, hA, hB, hZ⟩ := hrel
   have hs1 := hx1.size
   have hs2 := hx2.size
   simp only [World.size_alloc] at hs2
   by_cases hlt : k < 64
   ·have cA : wr.cell? ⟨w1.heap.size, k, none⟩ = some (.bool (tb a k)) := by rw [hA.cell, Q32 _ _ hlt]
    have cB : wr.cell? ⟨w2.heap.size, k, none⟩ = some (.bool (tb b k)) := by rw [hB.cell, Q32 _ _ hlt]
    have cZ : wr.cell? ⟨w2.heap.size + 1, k, none⟩ = some (.bool (Q1m F k k)) := by rw [hZ.cell, Q32 _ _ hlt]
    have fZ := hZ.frozen k
    have Hn : Hid (∀ v : Bool, v = F k → Ext w (wr.setCell ⟨w2.heap.size + 1, k, none⟩ (.bool v)) ∧ Blk (wr.setCell ⟨w2.heap.size + 1, k, none⟩ (.bool v)) w1.heap.size 165 (arr (tb a)) ∧ Blk (wr.setCell ⟨w2.heap.size + 1, k, none⟩ (.bool v)) w2.heap.size 165 (arr (tb b)) ∧ Blk (wr.setCell ⟨w2.heap.size + 1, k, none⟩ (.bool v)) (w2.heap.size + 1) 165 (arr (Q1m F (k + 1)))) := by
     intro v hv
     refine ⟨hx.setCell (by simp; omega) _, hA.far (by simp; omega) _, hB.far (by simp) _, ?_⟩
     have := hZ.set_ k (.bool v)
     rwa [Qb6 F k hlt v hv] at this
    clear hA hB hZ hx hx1 hx2
    have hFk := congrFun HF.out k
    generalize Q1m F k k = old at cZ
    cases hAk : tb a k <;> cases hBk : tb b k
    all_goals
     rw [hAk, hBk] at hFk
     rw [hAk] at cA
     rw [hBk] at cB
     have HFk := Lib.hid hFk
     clear hFk hAk hBk
     go_wp2
     try go_region
     try go_wp2
     go_roundw
     case rel =>
      have hn := Hn.out _ HFk.out
      first
       | exact ⟨k + 1, by omega, by go_num, hn⟩
       | exact ⟨k + 1, by omega, by go_num, hn.1.drew, hn.2.1.drew, hn.2.2.1.drew, hn.2.2.2.drew⟩
     case measure => simp [intOf]; omega
   ·obtain rfl : k = 64 := by omega
    clear hlt
    go_wp2_with (first | ((with_reducible refine Q5w hZ ?_ Try.underlying165 ?_ ?_ ?_); rfl; rfl; (rw [Q1z]; exact Q3b)) | (go_at_call 147; refine (of_c _ _).mono ?_; rintro e w3 ⟨rfl, hx3⟩))
    go_ret
    exact ⟨Q12 (Qan F), hx.trans hx3⟩
set_option maxHeartbeats 1000000 in
theorem Q8n (a b : Int) (w : World) (a0 : -9223372036854775808 ≤ a) (a1 : a ≤ 9223372036854775807) (b0 : -9223372036854775808 ≤ b) (b1 : b ≤ 9223372036854775807) :
  Calls Try.prog 101 #[.int .i64 a, .int .i64 b] w fun e w' => e = .returned (.bool (Q3q a b)) ∧ w = w' := by
 have hn := Qfq a0 a1 b0 b1
 have Hn := Lib.hid hn
 clear hn
 by_cases ha : a < 0 <;> by_cases hb : b < 0
 all_goals
  go_enter Try.func101, Try.ntmps101
  go_wp2
  go_ret
  exact ⟨Q04 (by rw [Hn.out]; first | (simp [ha, hb]; done) | (simp; omega)), rfl⟩
set_option maxHeartbeats 2000000 in
theorem Qcr (a s : Int) (w : World) (s0 : -63 ≤ s) (s1 : s ≤ 63) (a0 : -9223372036854775808 ≤ a) (a1 : a ≤ 9223372036854775807) :
  Calls Try.prog 132 #[.int .i64 a, .int .i64 s] w fun e w' => e = .returned (.int .i64 (ofB (mv (tb a) s))) ∧ Ext w w' := by
 go_enter Try.func132, Try.ntmps132
 go_wp2_with fail
 refine (Q62 a _ a0 a1).mono ?_
 rintro e w1 ⟨rfl, hx1⟩
 go_wp2_with ((with_reducible refine Q5m (arr (tb a)) ?_ ?_ ?_ ?_ ?_ ?_); rfl; rfl; (simp [Q1z]); (rw [Q1z]; exact Q3b); exact Q5e _)
 rw [← Q6x]
 go_loopw [7] (fun i wr => ∃ k : Nat, k ≤ 64 ∧ i = .int .i64 k ∧ Ext w wr ∧ Blk wr w1.heap.size 165 (arr (tb a)) ∧ Blk wr (w1.heap.size + 1) 165 (arr (Q1m (mv (tb a) s) k))) (fun i _ => 64 - (intOf i).toNat)
 case atStart =>
  refine ⟨0, by omega, rfl, ?_, ?_, ?_⟩
  ·exact (hx1.alloc _).alloc _
  ·exact (Blk.new _ _ _).alloc _
  ·rw [Qb5]; have := Blk.new (w1.alloc (.cells (arr (tb a)) 165)) 165 (arr fun _ => false); simpa using this
 case round =>
  obtain ⟨k, hk, rfl, hx, hA, hZ⟩ := hrel
  have hs1 := hx1.size
  by_cases hlt : k < 64
  ·have cZ : wr.cell? ⟨w1.heap.size + 1, k, none⟩ = some (.bool (Q1m (mv (tb a) s) k k)) := by rw [hZ.cell, Q32 _ _ hlt]
   have fZ := hZ.frozen k
   have Hn : Hid (∀ v : Bool, v = mv (tb a) s k → Ext w (wr.setCell ⟨w1.heap.size + 1, k, none⟩ (.bool v)) ∧ Blk (wr.setCell ⟨w1.heap.size + 1, k, none⟩ (.bool v)) w1.heap.size 165 (arr (tb a)) ∧ Blk (wr.setCell ⟨w1.heap.size + 1, k, none⟩ (.bool v)) (w1.heap.size + 1) 165 (arr (Q1m (mv (tb a) s) (k + 1)))) := by
    intro v hv
    refine ⟨hx.setCell (by simp; omega) _, hA.far (by simp) _, ?_⟩
    have := hZ.set_ k (.bool v)
    rwa [Qb6 _ k hlt v hv] at this
   have Hz : Hid (mv (tb a) s k = false → arr (Q1m (mv (tb a) s) k) = arr (Q1m (mv (tb a) s) (k + 1))) := fun h => Q3t fun i _ => by
    unfold Q1m
    by_cases e : i = k
    ·subst e; simp [h]
    ·congr 1; simp; omega
   have HZ := Lib.hid hZ
   generalize Q1m (mv (tb a) s) k k = old at cZ
   by_cases h0 : 0 ≤ (k : Int) - s
   ·by_cases h1 : (k : Int) - s < 64
    ·obtain ⟨j, hj⟩ := Int.eq_ofNat_of_zero_le h0
     have hjl : j < 64 := by omega
     have cA : wr.cell? ⟨w1.heap.size, j, none⟩ = some (.bool (tb a j)) := by rw [hA.cell, Q32 _ _ hjl]
     have hv : tb a j = mv (tb a) s k := by unfold mv; rw [hj]; simp; omega
     have Hv := Lib.hid hv
     clear hZ hA hx hv
     go_wp2
     go_roundw
     case rel => exact ⟨k + 1, by omega, by go_num, Hn.out _ Hv.out⟩
     case measure => simp [intOf]; omega
    ·have hv : mv (tb a) s k = false := by unfold mv; simp; omega
     have Hv := Lib.hid hv
     have Hk : Hid (Ext w wr ∧ Blk wr w1.heap.size 165 (arr (tb a))) := ⟨hx, hA⟩
     clear hZ hA hx hv
     go_wp2
     go_roundw
     case rel => exact ⟨k + 1, by omega, by go_num, Hk.out.1, Hk.out.2, by rw [← Hz.out Hv.out]; exact HZ.out⟩
     case measure => simp [intOf]; omega
   ·have hv : mv (tb a) s k = false := by unfold mv; simp; omega
    have Hv := Lib.hid hv
    have Hk : Hid (Ext w wr ∧ Blk wr w1.heap.size 165 (arr (tb a))) := ⟨hx, hA⟩
    clear hZ hA hx hv
    go_wp2
    go_roundw
    case rel => exact ⟨k + 1, by omega, by go_num, Hk.out.1, Hk.out.2, by rw [← Hz.out Hv.out]; exact HZ.out⟩
    case measure => simp [intOf]; omega
  ·obtain rfl : k = 64 := by omega
   clear hlt
   go_wp2_with (first | ((with_reducible refine Q5w hZ ?_ Try.underlying165 ?_ ?_ ?_); rfl; rfl; (rw [Q1z]; exact Q3b)) | (go_at_call 147; refine (of_c _ _).mono ?_; rintro e w3 ⟨rfl, hx3⟩))
   go_ret
   exact ⟨Q12 (Qan _), hx.trans hx3⟩
theorem Qhr (a b : Int) (hb : 0 < u64 b) (k : Nat) (hk : k < 64) (t : Int) (ht : t = if tb a k then 1 else 0) :
  (¬ wrap64 (rst (u64 a) (u64 b) (k + 1)) < 0 → (Q3q (wrap64 (2 * rst (u64 a) (u64 b) (k + 1) + t)) b = true ↔ tb (u64 a / u64 b) k = false)) ∧
  (wrap64 (rst (u64 a) (u64 b) (k + 1)) < 0 → tb (u64 a / u64 b) k = true) ∧
  (tb (u64 a / u64 b) k = true → wrap64 (wrap64 (2 * rst (u64 a) (u64 b) (k + 1) + t) - b) = wrap64 (rst (u64 a) (u64 b) k)) ∧
  (tb (u64 a / u64 b) k = false → wrap64 (2 * rst (u64 a) (u64 b) (k + 1) + t) = wrap64 (rst (u64 a) (u64 b) k)) := by
 obtain ⟨h1, h2⟩ := Qdk (u64 a) (u64 b) k (Q4w a) hb
 obtain ⟨r0, r1⟩ := Qdl (u64 a) (u64 b) (k + 1) hb
 have hbl := Q76 b
 have htm : t = u64 a / 2 ^ k % 2 := by
  rw [ht, ← Q67 a k hk]
  unfold tb
  rcases Int.emod_two_eq (u64 a / 2 ^ k) with h | h <;> simp [h]
 rw [← htm] at h1 h2
 have ht2 : t = 0 ∨ t = 1 := by rw [ht]; split <;> simp
 generalize rst (u64 a) (u64 b) (k + 1) = r at *
 rw [h2, h1, Qbk, Qbm r r0 (by omega)]
 unfold Q3q
 rw [Qbt]
 refine ⟨fun h => ?_, fun h => by simp; omega, fun h => ?_, fun h => ?_⟩
 ·rw [Int.emod_eq_of_lt (by omega) (by omega)]; simp
 ·rw [if_pos (by simpa using h)]
 ·rw [if_neg (by simpa using h)]; congr 1; omega
set_option maxHeartbeats 4000000 in
theorem Qhq (a b : Int) (w : World) (a0 : -9223372036854775808 ≤ a) (a1 : a ≤ 9223372036854775807) (b0 : -9223372036854775808 ≤ b) (b1 : b ≤ 9223372036854775807) (hb : 0 < u64 b) :
  Calls Try.prog 133 #[.int .i64 a, .int .i64 b] w fun e w' => e = .returned (.tuple #[.int .i64 (wrap64 (u64 a / u64 b)), .int .i64 (wrap64 (u64 a % u64 b))]) ∧ Ext w w' := by
 go_enter Try.func133, Try.ntmps133
 go_wp2_with fail
 refine (Q62 a _ a0 a1).mono ?_
 rintro e w1 ⟨rfl, hx1⟩
 go_wp2_with ((with_reducible refine Q5m (arr (tb a)) ?_ ?_ ?_ ?_ ?_ ?_); rfl; rfl; (simp [Q1z]); (rw [Q1z]; exact Q3b); exact Q5e _)
 rw [← Q6x]
 go_loopw [8, 9] (fun r i wr => ∃ k : Nat, k ≤ 64 ∧ i = .int .i64 ((k : Int) - 1) ∧ r = .int .i64 (wrap64 (rst (u64 a) (u64 b) k)) ∧ Ext w wr ∧ Blk wr w1.heap.size 165 (arr (tb a)) ∧ Blk wr (w1.heap.size + 1) 165 (arr (Q1y (tb (u64 a / u64 b)) k))) (fun _ i _ => (intOf i + 1).toNat)
 case atStart =>
  refine ⟨64, by omega, rfl, ?_, ?_, ?_, ?_⟩
  ·rw [Qdj _ _ (Q4w a) (Q76 a)]; simp [wrap64]
  ·exact (hx1.alloc _).alloc _
  ·exact (Blk.new _ _ _).alloc _
  ·rw [Qh8]; have := Blk.new (w1.alloc (.cells (arr (tb a)) 165)) 165 (arr fun _ => false); simpa using this
 case round =>
  obtain ⟨k, hk, rfl, rfl, hx, hA, hZ⟩ := hrel
  have hs1 := hx1.size
  cases k with
  | succ k =>
   have hlt : k < 64 := by omega
   have hkk : ((k + 1 : Nat) : Int) - 1 = (k : Int) := by omega
   rw [hkk]
   have cA : wr.cell? ⟨w1.heap.size, k, none⟩ = some (.bool (tb a k)) := by rw [hA.cell, Q32 _ _ hlt]
   have cZ : wr.cell? ⟨w1.heap.size + 1, k, none⟩ = some (.bool (Q1y (tb (u64 a / u64 b)) (k + 1) k)) := by rw [hZ.cell, Q32 _ _ hlt]
   have fZ := hZ.frozen k
   have Hn : Hid (tb (u64 a / u64 b) k = true → Ext w (wr.setCell ⟨w1.heap.size + 1, k, none⟩ (.bool true)) ∧ Blk (wr.setCell ⟨w1.heap.size + 1, k, none⟩ (.bool true)) w1.heap.size 165 (arr (tb a)) ∧ Blk (wr.setCell ⟨w1.heap.size + 1, k, none⟩ (.bool true)) (w1.heap.size + 1) 165 (arr (Q1y (tb (u64 a / u64 b)) k))) := by
    intro hv
    refine ⟨hx.setCell (by simp; omega) _, hA.far (by simp) _, ?_⟩
    have := hZ.set_ k (.bool true)
    rwa [Qh7 _ k hlt hv] at this
   have Hm : Hid (tb (u64 a / u64 b) k = false → Ext w wr ∧ Blk wr w1.heap.size 165 (arr (tb a)) ∧ Blk wr (w1.heap.size + 1) 165 (arr (Q1y (tb (u64 a / u64 b)) k))) := by
    intro hv
    rw [Qh9 _ k hv] at hZ
    exact ⟨hx, hA, hZ⟩
   generalize Q1y (tb (u64 a / u64 b)) (k + 1) k = old at cZ
   have htwo := Qbj (rst (u64 a) (u64 b) (k + 1))
   have hone := Qbl (2 * rst (u64 a) (u64 b) (k + 1))
   obtain ⟨n1, n2, n3, n4⟩ := Qhr a b hb k hlt (if tb a k then 1 else 0) rfl
   clear hA hZ hx
   cases hbit : tb a k
   all_goals
    rw [hbit] at cA n1 n3 n4
    simp only [Bool.false_eq_true, if_false, if_true, Int.add_zero] at n1 n3 n4
    by_cases ho : wrap64 (rst (u64 a) (u64 b) (k + 1)) < 0
    ·have q1 := n2 ho
     have HR := Lib.hid (n3 q1)
     have Q1 := Lib.hid q1
     clear n1 n2 n3 n4 q1 hbit
     go_wp2
     go_roundw
     case rel => exact ⟨k, by omega, by go_num, by rw [← HR.out], Hn.out Q1.out⟩
     case measure => first | (simp [intOf]; done) | (simp [intOf]; omega)
    ·have q1 := n1 ho
     cases hq : tb (u64 a / u64 b) k
     ·have HR := Lib.hid (n4 hq)
      have Q1 := Lib.hid hq
      have hnb := q1.2 hq
      clear n1 n2 n3 n4 q1 hbit hq
      go_wp2_with (go_at_call 101; refine (Q8n _ b _ (by unfold wrap64; omega) (by unfold wrap64; omega) b0 b1).mono ?_; rintro e w' ⟨rfl, rfl⟩)
      go_roundw
      case rel => exact ⟨k, by omega, by go_num, by rw [← HR.out], Hm.out Q1.out⟩
      case measure => first | (simp [intOf]; done) | (simp [intOf]; omega)
     ·have HR := Lib.hid (n3 hq)
      have Q1 := Lib.hid hq
      have hnb : Q3q (wrap64 (2 * rst (u64 a) (u64 b) (k + 1) + if tb a k = true then 1 else 0)) b = false := by
       rw [hbit]
       simp only [Bool.false_eq_true, if_false, if_true, Int.add_zero]
       rw [Bool.eq_false_iff]
       intro h
       rw [q1.1 h] at hq
       cases hq
      rw [hbit] at hnb
      simp only [Bool.false_eq_true, if_false, if_true, Int.add_zero] at hnb
      clear n1 n2 n3 n4 q1 hbit hq
      go_wp2_with (go_at_call 101; refine (Q8n _ b _ (by unfold wrap64; omega) (by unfold wrap64; omega) b0 b1).mono ?_; rintro e w' ⟨rfl, rfl⟩)
      go_roundw
      case rel => exact ⟨k, by omega, by go_num, by rw [← HR.out], Hn.out Q1.out⟩
      case measure => first | (simp [intOf]; done) | (simp [intOf]; omega)
  | zero =>
   go_wp2_with (first | ((with_reducible refine Q5w hZ ?_ Try.underlying165 ?_ ?_ ?_); rfl; rfl; (rw [Q1z]; exact Q3b)) | (go_at_call 147; refine (of_c _ _).mono ?_; rintro e w3 ⟨rfl, hx3⟩))
   go_ret2
   refine ⟨Q9v ?_, hx.trans hx3⟩
   have e1 : ofB (Q1y (tb (u64 a / u64 b)) 0) = wrap64 (u64 a / u64 b) := by
    rw [← Q54]
    exact Q4q fun i _ => by simp [Q1y]
   have e2 : rst (u64 a) (u64 b) 0 = u64 a % u64 b := by unfold rst; simp
   rw [← e1, ← e2]
   rfl
set_option maxHeartbeats 1000000 in
theorem Qa4 (c a b : Int) (w : World) (a0 : -9223372036854775808 ≤ a) (a1 : a ≤ 9223372036854775807) (b0 : -9223372036854775808 ≤ b) (b1 : b ≤ 9223372036854775807) :
  Calls Try.prog 64 #[.int .i64 c, .int .i64 a, .int .i64 b] w fun e w' => e = .returned (.bool (Q40 c a b)) ∧ w = w' := by
 go_enter Try.func64, Try.ntmps64
 go_wp2_with (go_at_call 101; refine (Q8n _ b _ a0 a1 b0 b1).mono ?_; rintro e w' ⟨rfl, rfl⟩)
 all_goals go_ret
 all_goals refine ⟨Q04 ?_, rfl⟩
 all_goals (rw [Bool.eq_iff_iff]; simp [Q40, Q3q]; grind)
theorem Qd5 (b : Int) : Q14 (tb b) 6 = (sh b : Int) := by
 rw [Q5l]; unfold sh; omega
theorem Qbs {b : Int} (b0 : -9223372036854775808 ≤ b) (b1 : b ≤ 9223372036854775807) : u64 b = 0 ↔ b = 0 := by unfold u64; omega
set_option maxHeartbeats 1000000 in
theorem Qe6 (op a b : Int) (w : World) (hop : op = 4 ∨ op = 5 ∨ op = 6) (a0 : -9223372036854775808 ≤ a) (a1 : a ≤ 9223372036854775807) (b0 : -9223372036854775808 ≤ b) (b1 : b ≤ 9223372036854775807) :
  Calls Try.prog 102 #[.int .i64 op, .int .i64 a, .int .i64 b] w fun e w' => e = .returned (.int .i64 (nop op a b)) ∧ Ext w w' := by
 rcases hop with rfl | rfl | rfl
 all_goals
  go_enter Try.func102, Try.ntmps102
  go_wp2_with (go_at_call 130; refine (Qi1 _ a b _ (by omega) a0 a1 b0 b1).mono ?_; rintro e w' ⟨rfl, hx⟩)
  go_ret
  refine ⟨Q12 ?_, hx⟩
  first | exact Qi2 a b | exact Qi0 a b | exact Qhz a b
set_option maxHeartbeats 2000000 in
theorem Qe5 (op a b : Int) (w : World) (hop : op = 9 ∨ op = 10) (a0 : -9223372036854775808 ≤ a) (a1 : a ≤ 9223372036854775807) (b0 : -9223372036854775808 ≤ b) (b1 : b ≤ 9223372036854775807) :
  Calls Try.prog 102 #[.int .i64 op, .int .i64 a, .int .i64 b] w fun e w' => e = .returned (.int .i64 (nop op a b)) ∧ Ext w w' := by
 rcases hop with rfl | rfl
 all_goals
  by_cases hb : b = 0
  ·subst hb
   go_enter Try.func102, Try.ntmps102
   go_wp2
   go_ret
   exact ⟨Q12 (by simp [nop, u64]), Ext.refl _⟩
  ·have hz : ¬ u64 b = 0 := fun h => hb ((Qbs b0 b1).1 h)
   have hp : 0 < u64 b := by have := Q4w b; omega
   have Hz := Lib.hid hz
   have hbb : (b == 0) = false := by simpa using hb
   clear hz hb
   go_enter Try.func102, Try.ntmps102
   go_wp2_with (go_at_call 133; refine (Qhq a b _ a0 a1 b0 b1 hp).mono ?_; rintro e w' ⟨rfl, hx⟩)
   go_ret
   refine ⟨Q12 ?_, hx⟩
   have := Hz.out
   simp [nop, this]
set_option maxHeartbeats 2000000 in
theorem Qe4 (op a b : Int) (w : World) (hop : op = 7 ∨ op = 8) (a0 : -9223372036854775808 ≤ a) (a1 : a ≤ 9223372036854775807) (b0 : -9223372036854775808 ≤ b) (b1 : b ≤ 9223372036854775807) :
  Calls Try.prog 102 #[.int .i64 op, .int .i64 a, .int .i64 b] w fun e w' => e = .returned (.int .i64 (nop op a b)) ∧ Ext w w' := by
 rcases hop with rfl | rfl
 all_goals
  go_enter Try.func102, Try.ntmps102
  go_wp2_with fail
  refine (Q62 b _ b0 b1).mono ?_
  rintro e w1 ⟨rfl, hx1⟩
  go_wp2_with ((with_reducible refine Q5m (arr (tb b)) ?_ ?_ ?_ ?_ ?_ ?_); rfl; rfl; (simp [Q1z]); (rw [Q1z]; exact Q3b); exact Q5e _)
  go_loopw [8, 9, 10] (fun s p i wr => ∃ k : Nat, k ≤ 6 ∧ i = .int .i64 k ∧ s = .int .i64 (Q14 (tb b) k) ∧ p = .int .i64 (2 ^ k) ∧ Ext w wr ∧ Blk wr w1.heap.size 165 (arr (tb b))) (fun _ _ i _ => 6 - (intOf i).toNat)
  case atStart => exact ⟨0, by omega, rfl, by simp [Q14], by simp, hx1.alloc _, Blk.new _ _ _⟩
  case round =>
   obtain ⟨k, hk, rfl, rfl, rfl, hx, hA⟩ := hrel
   by_cases hlt : k < 6
   ·have cA : wr.cell? ⟨w1.heap.size, k, none⟩ = some (.bool (tb b k)) := by rw [hA.cell, Q32 _ _ (by omega)]
    have hp0 := pow_pos' k
    have hp1 : (2 : Int) ^ k ≤ 32 := by
     have : k = 0 ∨ k = 1 ∨ k = 2 ∨ k = 3 ∨ k = 4 ∨ k = 5 := by omega
     rcases this with rfl | rfl | rfl | rfl | rfl | rfl <;> decide
    have hs0 : 0 ≤ Q14 (tb b) k := by rw [Q5l]; exact Int.emod_nonneg _ (by omega)
    have hs1 : Q14 (tb b) k < 2 ^ k := by rw [Q5l]; exact Int.emod_lt_of_pos _ hp0
    have Hp : Hid ((2 : Int) ^ k + 2 ^ k = 2 ^ (k + 1)) := by show _ = _; rw [Int.pow_succ]; omega
    have Hk : Hid (Ext w wr ∧ Blk wr w1.heap.size 165 (arr (tb b))) := ⟨hx, hA⟩
    have Hs : Hid (Q14 (tb b) (k + 1) = Q14 (tb b) k + if tb b k then 2 ^ k else 0) := rfl
    clear hx hA hx1
    generalize (2 : Int) ^ k = p at *
    generalize Q14 (tb b) k = s at *
    cases hbit : tb b k
    all_goals
     rw [hbit] at cA Hs
     clear hbit
     go_wp2
     go_roundw
     case rel => exact ⟨k + 1, by omega, by go_num, by rw [Hs.out]; simp, by rw [Hp.out], Hk.out.1, Hk.out.2⟩
     case measure => first | (simp [intOf]; done) | (simp [intOf]; omega)
   ·obtain rfl : k = 6 := by omega
    have hs := Qd5 b
    have hl := Q9h b
    clear hlt hk
    rw [hs]
    clear hs
    go_wp2_with (go_at_call 132; refine (Qcr a _ _ (by omega) (by omega) a0 a1).mono ?_; rintro e w3 ⟨rfl, hx3⟩)
    go_ret
    refine ⟨Q12 ?_, hx.trans hx3⟩
    first | exact Qcq a (sh b) hl | exact Qco a (sh b) hl
set_option maxHeartbeats 2000000 in
theorem Q7p (op a b : Int) (w : World) (a0 : -9223372036854775808 ≤ a) (a1 : a ≤ 9223372036854775807) (b0 : -9223372036854775808 ≤ b) (b1 : b ≤ 9223372036854775807) :
  Calls Try.prog 102 #[.int .i64 op, .int .i64 a, .int .i64 b] w fun e w' => e = .returned (.int .i64 (nop op a b)) ∧ Ext w w' := by
 by_cases h4 : op = 4 ∨ op = 5 ∨ op = 6
 ·exact Qe6 op a b w h4 a0 a1 b0 b1
 by_cases h7 : op = 7 ∨ op = 8
 ·exact Qe4 op a b w h7 a0 a1 b0 b1
 by_cases h9 : op = 9 ∨ op = 10
 ·exact Qe5 op a b w h9 a0 a1 b0 b1
 have q4 : (op == 4) = false := by rw [beq_eq_false_iff_ne]; omega
 have q5 : (op == 5) = false := by rw [beq_eq_false_iff_ne]; omega
 have q6 : (op == 6) = false := by rw [beq_eq_false_iff_ne]; omega
 have q7 : (op == 7) = false := by rw [beq_eq_false_iff_ne]; omega
 have q8 : (op == 8) = false := by rw [beq_eq_false_iff_ne]; omega
 have q9 : (op == 9) = false := by rw [beq_eq_false_iff_ne]; omega
 have q10 : (op == 10) = false := by rw [beq_eq_false_iff_ne]; omega
 clear h4 h7 h9
 go_enter Try.func102, Try.ntmps102
 go_wp2
 all_goals go_ret
 all_goals refine ⟨Q12 ?_, Ext.refl _⟩
 all_goals simp_all [nop]
end Go.Proofs.Yteiknefajlocoaa
