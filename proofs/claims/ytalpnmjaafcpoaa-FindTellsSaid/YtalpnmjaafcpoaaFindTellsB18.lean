/- Laid together from: Num, Ref1, Ref1b. -/
import Derived.Test.YtalpnmjaafcpoaaProg
import Derived.Test.YtalpnmjaafcpoaaFindTellsB4
import Derived.Test.YtalpnmjaafcpoaaFindTellsB6
import Derived.WalkLawsBesides
import Derived.WalkSpells
import Derived.Outline
import Derived.Test.YtalpnmjaafcpoaaFindTellsB11

namespace Go.Proofs.Ytalpnmjaafcpoaa
open Go.ChangeShapes Go.WideShapes Go.ChangeAt Go.RowKit
set_option maxHeartbeats 1000000 in
theorem Q89 (op a b : Int) (w : World) :
  Calls Try.prog 60 #[.int .i64 op, .int .i64 a, .int .i64 b] w fun e w' => e = .returned (.int .i64 (nop op a b)) ∧ w = w' := by
 have H63 := and63' b
 have hu := Q5s b
 have hua := Q5s a
 go_enter Try.func60, Try.ntmps60
 go_wp2
 all_goals first
  | (exfalso; simp_all; done)
  | (go_ret; refine ⟨Q14 ?_, rfl⟩; simp_all [nop, Qdi, Qbw, Qc9, Qc8])
theorem Qhj (c op : Int) (is : Bool) (p : Addr) (w : World) (hc : w.cell? p = some (.int .i64 op)) :
  Calls Try.prog 66 #[.int .i64 c, .bool is, .pointer (some p)] w fun e w' => e = .returned (.bool (c == op && is)) ∧ w = w' := by
 go_enter Try.func66, Try.ntmps66
 go_wp2
 all_goals go_ret
 all_goals exact ⟨Q04 (by simp_all), rfl⟩
set_option maxHeartbeats 1000000 in
theorem Qb2 (op a b : Int) (w : World) :
  Calls Try.prog 51 #[.int .i64 op, .int .i64 a, .int .i64 b] w fun e w' => e = .returned (.bool (Q46 op a b)) ∧ Ext w w' := by
 have hu := Q5s b
 have hua := Q5s a
 have hmf : ∀ (fn : Fn) (first cap : Array Value) (w : World), (Instr.makeFunc fn first cap).run Try.prog w = .ok (.func fn first cap) w := fun _ _ _ _ => rfl
 go_enter Try.func51, Try.ntmps51
 go_wp2_with (go_at_call 66; refine (Qhj _ op _ _ _ (by go_cell)).mono ?_; rintro e w' ⟨rfl, rfl⟩)
 all_goals go_ret
 all_goals refine ⟨Q04 ?_, (Ext.refl _).alloc _⟩
 all_goals (rw [Bool.eq_iff_iff]; simp [Q46]; grind)
theorem Q3e : (Try.prog.info? 108).map (·.size) = some 64 := by kernel_rfl
set_option maxHeartbeats 1000000 in
theorem Q69 (n : Int) (w : World) (h0 : -9223372036854775808 ≤ n) (h1 : n ≤ 9223372036854775807) :
  Calls Try.prog 72 #[.int .i64 n] w fun e w' => e = .returned (.agg (arr (tb n))) ∧ Ext w w' := by
 go_enter Try.func72, Try.ntmps72
 go_wp2
 rw [← Q76]
 go_loopw [0, 4] (fun v i wr => ∃ k : Nat, k ≤ 64 ∧ i = .int .i64 k ∧ v = .int .i64 (n / 2 ^ k) ∧ Below w.heap.size w wr ∧ Blk wr w.heap.size 108 (arr (fun _ => false)) ∧ Blk wr (w.heap.size + 1) 108 (arr (Q2d n k))) (fun _ i _ => 64 - (intOf i).toNat)
 case atStart =>
  refine ⟨0, by omega, rfl, by simp, ?_, ?_, ?_⟩
  ·exact ((Ext.refl _).alloc _).alloc _
  ·exact (Blk.new _ _ _).alloc _
  ·rw [Qil]; have := Blk.new (w.alloc (.cells (arr fun _ => false) 108)) 108 (arr fun _ => false); simpa using this
 case round =>
  obtain ⟨k, hk, rfl, rfl, hb, hz, hl⟩ := hrel
  have hnn := half n k
  obtain ⟨hb0, hb1⟩ := Qhs n k h0 h1
  by_cases hlt : k < 64
  ·have hcell : wr.cell? ⟨w.heap.size + 1, k, none⟩ = some (.bool (Q2d n k k)) := by rw [hl.cell, Q35 _ _ hlt]
   have hfz := hl.frozen k
   have htb : tb n k = decide (n / 2 ^ k % 2 = 1) := rfl
   generalize n / 2 ^ k = m at *
   have Hnn := Lib.hid hnn
   have Htb := Lib.hid htb
   clear hnn htb
   have hstep : ∀ b : Bool, b = decide (m % 2 = 1) → Blk (wr.setCell ⟨w.heap.size + 1, k, none⟩ (.bool b)) (w.heap.size + 1) 108 (arr (Q2d n (k + 1))) := fun b hb => by
    have := hl.set_ k (.bool b)
    rwa [Qim n k hlt b (by rw [hb, Htb.out])] at this
   have hz' : ∀ b : Bool, Blk (wr.setCell ⟨w.heap.size + 1, k, none⟩ (.bool b)) w.heap.size 108 (arr fun _ => false) := fun b => hz.far (by simp) _
   have hb' : ∀ b : Bool, Below w.heap.size w (wr.setCell ⟨w.heap.size + 1, k, none⟩ (.bool b)) := fun b => hb.setCell (by simp) _
   have Hs := Lib.hid hstep
   have Hz := Lib.hid hz'
   have Hb := Lib.hid hb'
   clear hstep hz' hb' hz hl hb
   by_cases hp : m % 2 = 0
   ·have ht := Qcf m hp
    have hd := Q7f m hp
    go_wp2
    go_roundw
    case rel => exact ⟨k + 1, by omega, by go_num, by rw [← Hnn.out], Hb.out _, Hz.out _, Hs.out _ (by simp; omega)⟩
    case measure => simp [intOf]; omega
   ·by_cases hs : 0 ≤ m
    ·have ht := Qcd m hp hs
     have hd := Q7f (m - 1) (by omega)
     have hr : (m - 1) / 2 = m / 2 := by omega
     go_wp2
     go_roundw
     case rel => exact ⟨k + 1, by omega, by go_num, by rw [← Hnn.out], Hb.out _, Hz.out _, Hs.out _ (by simp; omega)⟩
     case measure => simp [intOf]; omega
    ·have ht := Qce m hp hs
     have hd := Q7f (m - 1) (by omega)
     have hr : (m - 1) / 2 = m / 2 := by omega
     go_wp2
     go_roundw
     case rel => exact ⟨k + 1, by omega, by go_num, by rw [← Hnn.out], Hb.out _, Hz.out _, Hs.out _ (by simp; omega)⟩
     case measure => simp [intOf]; omega
  ·have : k = 64 := by omega
   subst this
   clear hnn hlt
   go_wp2_with (first | ((with_reducible refine Q63 hl ?_ Try.underlying108 ?_ ?_ ?_); rfl; rfl; (rw [Q22]; exact Q3e)) | ((with_reducible refine Q6g hz (arr (Q2d n 64)) ?_ ?_ ?_ ?_ ?_ ?_); rfl; rfl; (simp [Q22]); (rw [Q22]; exact Q3e); exact Q5m _))
   exact bodyPost_ret (Q5y (hz.stored (arr (Q2d n 64)) (by simp [Q22])) rfl _ rfl Try.underlying108 rfl (by rw [Q22]; exact Q3e)) rfl ⟨Qa7 (by rw [Qin]), Qio _ hb (Nat.le_refl _) 0⟩
set_option maxHeartbeats 1000000 in
theorem of_c (f : Nat → Bool) (w : World) :
  Calls Try.prog 79 #[.agg (arr f)] w fun e w' => e = .returned (.int .i64 (ofB f)) ∧ Ext w w' := by
 go_enter Try.func79, Try.ntmps79
 go_wp2
 go_loop [3, 4, 5] (fun s p i => ∃ k : Nat, k ≤ 64 ∧ i = .int .i64 k ∧ s = .int .i64 (wrap64 (Q16 f k)) ∧ p = .int .i64 (wrap64 (2 ^ k))) (fun _ _ i => 64 - (intOf i).toNat)
 case atStart => exact ⟨0, by omega, rfl, by simp [Q16, wrap64], by simp [wrap64]⟩
 case round =>
  obtain ⟨k, hk, rfl, rfl, rfl⟩ := hrel
  by_cases hlt : k < 64
  ·have hget := Qiv f k
   have hsz := Q22 f
   by_cases hb : f k = true
   ·go_wp2
    go_round
    case rel => exact ⟨k + 1, by omega, by go_num, by rw [← Qcl f k hb], by rw [← Qan]⟩
    case measure => simp [intOf]; omega
   ·have hb' : f k = false := by simpa using hb
    have Hsum := Lib.hid (Qcm f k hb')
    clear hb
    go_wp2
    go_round
    case rel => exact ⟨k + 1, by omega, by go_num, by rw [← Hsum.out], by rw [← Qan]⟩
    case measure => simp [intOf]; omega
  ·obtain rfl : k = 64 := by omega
   clear hlt
   go_wp2
   go_ret
   exact ⟨rfl, (Ext.refl _).alloc _⟩
set_option maxHeartbeats 2000000 in
theorem Qii (op a b : Int) (w : World) (hop : op = 4 ∨ op = 5 ∨ op = 6) (a0 : -9223372036854775808 ≤ a) (a1 : a ≤ 9223372036854775807) (b0 : -9223372036854775808 ≤ b) (b1 : b ≤ 9223372036854775807) :
  Calls Try.prog 71 #[.int .i64 op, .int .i64 a, .int .i64 b] w fun e w' => e = .returned (.int .i64 (ofB fun i => bop op (tb a i) (tb b i))) ∧ Ext w w' := by
 rcases hop with rfl | rfl | rfl
 all_goals
  generalize hF : (fun i => bop _ (tb a i) (tb b i)) = F
  have HF := Lib.hid hF
  clear hF
  go_enter Try.func71, Try.ntmps71
  go_wp2_with fail
  refine (Q69 a _ a0 a1).mono ?_
  rintro e w1 ⟨rfl, hx1⟩
  go_wp2_with ((with_reducible refine Q5u (arr (tb a)) ?_ ?_ ?_ ?_ ?_ ?_); rfl; rfl; (simp [Q22]); (rw [Q22]; exact Q3e); exact Q5m _)
  refine (Q69 b _ b0 b1).mono ?_
  rintro e w2 ⟨rfl, hx2⟩
  go_wp2_with ((with_reducible refine Q5u (arr (tb b)) ?_ ?_ ?_ ?_ ?_ ?_); rfl; rfl; (simp [Q22]); (rw [Q22]; exact Q3e); exact Q5m _)
  rw [← Q76]
  go_loopw [10] (fun i wr => ∃ k : Nat, k ≤ 64 ∧ i = .int .i64 k ∧ Ext w wr ∧ Blk wr w1.heap.size 108 (arr (tb a)) ∧ Blk wr w2.heap.size 108 (arr (tb b)) ∧ Blk wr (w2.heap.size + 1) 108 (arr (Q1o F k))) (fun i _ => 64 - (intOf i).toNat)
  case atStart =>
   refine ⟨0, by omega, rfl, ?_, ?_, ?_, ?_⟩
   ·exact ((((Ext.trans hx1 ((Ext.refl _).alloc _)).trans hx2).alloc _).alloc _)
   ·exact (((Blk.new _ _ _).ext hx2).alloc _).alloc _
   ·exact (Blk.new _ _ _).alloc _
   ·rw [Qbh]; have := Blk.new (w2.alloc (.cells (arr (tb b)) 108)) 108 (arr fun _ => false); simpa using this
  case round =>
   obtain ⟨k, hk, rfl, hx, hA, hB, hZ⟩ := hrel
   have hs1 := hx1.size
   have hs2 := hx2.size
   simp only [World.size_alloc] at hs2
   by_cases hlt : k < 64
   ·have cA : wr.cell? ⟨w1.heap.size, k, none⟩ = some (.bool (tb a k)) := by rw [hA.cell, Q35 _ _ hlt]
    have cB : wr.cell? ⟨w2.heap.size, k, none⟩ = some (.bool (tb b k)) := by rw [hB.cell, Q35 _ _ hlt]
    have cZ : wr.cell? ⟨w2.heap.size + 1, k, none⟩ = some (.bool (Q1o F k k)) := by rw [hZ.cell, Q35 _ _ hlt]
    have fZ := hZ.frozen k
    have Hn : Hid (∀ v : Bool, v = F k → Ext w (wr.setCell ⟨w2.heap.size + 1, k, none⟩ (.bool v)) ∧ Blk (wr.setCell ⟨w2.heap.size + 1, k, none⟩ (.bool v)) w1.heap.size 108 (arr (tb a)) ∧ Blk (wr.setCell ⟨w2.heap.size + 1, k, none⟩ (.bool v)) w2.heap.size 108 (arr (tb b)) ∧ Blk (wr.setCell ⟨w2.heap.size + 1, k, none⟩ (.bool v)) (w2.heap.size + 1) 108 (arr (Q1o F (k + 1)))) := by
     intro v hv
     refine ⟨hx.setCell (by simp; omega) _, hA.far (by simp; omega) _, hB.far (by simp) _, ?_⟩
     have := hZ.set_ k (.bool v)
     rwa [Qbi F k hlt v hv] at this
    clear hA hB hZ hx hx1 hx2
    have hFk := congrFun HF.out k
    generalize Q1o F k k = old at cZ
    cases hAk : tb a k <;> cases hBk : tb b k
    all_goals
     rw [hAk, hBk] at hFk
     rw [hAk] at cA
     rw [hBk] at cB
     have HFk := Lib.hid hFk
     clear hFk hAk hBk
     go_wp2
     try go_region
     try go_wp2
     go_roundw
     case rel =>
      have hn := Hn.out _ HFk.out
      first
       | exact ⟨k + 1, by omega, by go_num, hn⟩
       | exact ⟨k + 1, by omega, by go_num, hn.1.drew, hn.2.1.drew, hn.2.2.1.drew, hn.2.2.2.drew⟩
     case measure => simp [intOf]; omega
   ·obtain rfl : k = 64 := by omega
    clear hlt
    go_wp2_with (first | ((with_reducible refine Q63 hZ ?_ Try.underlying108 ?_ ?_ ?_); rfl; rfl; (rw [Q22]; exact Q3e)) | (go_at_call 79; refine (of_c _ _).mono ?_; rintro e w3 ⟨rfl, hx3⟩))
    go_ret
    exact ⟨Q14 (Qb1 F), hx.trans hx3⟩
set_option maxHeartbeats 1000000 in
theorem Q8v (a b : Int) (w : World) (a0 : -9223372036854775808 ≤ a) (a1 : a ≤ 9223372036854775807) (b0 : -9223372036854775808 ≤ b) (b1 : b ≤ 9223372036854775807) :
  Calls Try.prog 62 #[.int .i64 a, .int .i64 b] w fun e w' => e = .returned (.bool (Q3v a b)) ∧ w = w' := by
 have hn := Qg2 a0 a1 b0 b1
 have Hn := Lib.hid hn
 clear hn
 by_cases ha : a < 0 <;> by_cases hb : b < 0
 all_goals
  go_enter Try.func62, Try.ntmps62
  go_wp2
  go_ret
  exact ⟨Q04 (by rw [Hn.out]; first | (simp [ha, hb]; done) | (simp; omega)), rfl⟩
set_option maxHeartbeats 2000000 in
theorem Qd3 (a s : Int) (w : World) (s0 : -63 ≤ s) (s1 : s ≤ 63) (a0 : -9223372036854775808 ≤ a) (a1 : a ≤ 9223372036854775807) :
  Calls Try.prog 73 #[.int .i64 a, .int .i64 s] w fun e w' => e = .returned (.int .i64 (ofB (mv (tb a) s))) ∧ Ext w w' := by
 go_enter Try.func73, Try.ntmps73
 go_wp2_with fail
 refine (Q69 a _ a0 a1).mono ?_
 rintro e w1 ⟨rfl, hx1⟩
 go_wp2_with ((with_reducible refine Q5u (arr (tb a)) ?_ ?_ ?_ ?_ ?_ ?_); rfl; rfl; (simp [Q22]); (rw [Q22]; exact Q3e); exact Q5m _)
 rw [← Q76]
 go_loopw [7] (fun i wr => ∃ k : Nat, k ≤ 64 ∧ i = .int .i64 k ∧ Ext w wr ∧ Blk wr w1.heap.size 108 (arr (tb a)) ∧ Blk wr (w1.heap.size + 1) 108 (arr (Q1o (mv (tb a) s) k))) (fun i _ => 64 - (intOf i).toNat)
 case atStart =>
  refine ⟨0, by omega, rfl, ?_, ?_, ?_⟩
  ·exact (hx1.alloc _).alloc _
  ·exact (Blk.new _ _ _).alloc _
  ·rw [Qbh]; have := Blk.new (w1.alloc (.cells (arr (tb a)) 108)) 108 (arr fun _ => false); simpa using this
 case round =>
  obtain ⟨k, hk, rfl, hx, hA, hZ⟩ := hrel
  have hs1 := hx1.size
  by_cases hlt : k < 64
  ·have cZ : wr.cell? ⟨w1.heap.size + 1, k, none⟩ = some (.bool (Q1o (mv (tb a) s) k k)) := by rw [hZ.cell, Q35 _ _ hlt]
   have fZ := hZ.frozen k
   have Hn : Hid (∀ v : Bool, v = mv (tb a) s k → Ext w (wr.setCell ⟨w1.heap.size + 1, k, none⟩ (.bool v)) ∧ Blk (wr.setCell ⟨w1.heap.size + 1, k, none⟩ (.bool v)) w1.heap.size 108 (arr (tb a)) ∧ Blk (wr.setCell ⟨w1.heap.size + 1, k, none⟩ (.bool v)) (w1.heap.size + 1) 108 (arr (Q1o (mv (tb a) s) (k + 1)))) := by
    intro v hv
    refine ⟨hx.setCell (by simp; omega) _, hA.far (by simp) _, ?_⟩
    have := hZ.set_ k (.bool v)
    rwa [Qbi _ k hlt v hv] at this
   have Hz : Hid (mv (tb a) s k = false → arr (Q1o (mv (tb a) s) k) = arr (Q1o (mv (tb a) s) (k + 1))) := fun h => Q3z fun i _ => by
    unfold Q1o
    by_cases e : i = k
    ·subst e; simp [h]
    ·congr 1; simp; omega
   have HZ := Lib.hid hZ
   generalize Q1o (mv (tb a) s) k k = old at cZ
   by_cases h0 : 0 ≤ (k : Int) - s
   ·by_cases h1 : (k : Int) - s < 64
    ·obtain ⟨j, hj⟩ := Int.eq_ofNat_of_zero_le h0
     have hjl : j < 64 := by omega
     have cA : wr.cell? ⟨w1.heap.size, j, none⟩ = some (.bool (tb a j)) := by rw [hA.cell, Q35 _ _ hjl]
     have hv : tb a j = mv (tb a) s k := by unfold mv; rw [hj]; simp; omega
     have Hv := Lib.hid hv
     clear hZ hA hx hv
     go_wp2
     go_roundw
     case rel => exact ⟨k + 1, by omega, by go_num, Hn.out _ Hv.out⟩
     case measure => simp [intOf]; omega
    ·have hv : mv (tb a) s k = false := by unfold mv; simp; omega
     have Hv := Lib.hid hv
     have Hk : Hid (Ext w wr ∧ Blk wr w1.heap.size 108 (arr (tb a))) := ⟨hx, hA⟩
     clear hZ hA hx hv
     go_wp2
     go_roundw
     case rel => exact ⟨k + 1, by omega, by go_num, Hk.out.1, Hk.out.2, by rw [← Hz.out Hv.out]; exact HZ.out⟩
     case measure => simp [intOf]; omega
   ·have hv : mv (tb a) s k = false := by unfold mv; simp; omega
    have Hv := Lib.hid hv
    have Hk : Hid (Ext w wr ∧ Blk wr w1.heap.size 108 (arr (tb a))) := ⟨hx, hA⟩
    clear hZ hA hx hv
    go_wp2
    go_roundw
    case rel => exact ⟨k + 1, by omega, by go_num, Hk.out.1, Hk.out.2, by rw [← Hz.out Hv.out]; exact HZ.out⟩
    case measure => simp [intOf]; omega
  ·obtain rfl : k = 64 := by omega
   clear hlt
   go_wp2_with (first | ((with_reducible refine Q63 hZ ?_ Try.underlying108 ?_ ?_ ?_); rfl; rfl; (rw [Q22]; exact Q3e)) | (go_at_call 79; refine (of_c _ _).mono ?_; rintro e w3 ⟨rfl, hx3⟩))
   go_ret
   exact ⟨Q14 (Qb1 _), hx.trans hx3⟩
theorem Qi8 (a b : Int) (hb : 0 < u64 b) (k : Nat) (hk : k < 64) (t : Int) (ht : t = if tb a k then 1 else 0) :
  (¬ wrap64 (rst (u64 a) (u64 b) (k + 1)) < 0 → (Q3v (wrap64 (2 * rst (u64 a) (u64 b) (k + 1) + t)) b = true ↔ tb (u64 a / u64 b) k = false)) ∧
  (wrap64 (rst (u64 a) (u64 b) (k + 1)) < 0 → tb (u64 a / u64 b) k = true) ∧
  (tb (u64 a / u64 b) k = true → wrap64 (wrap64 (2 * rst (u64 a) (u64 b) (k + 1) + t) - b) = wrap64 (rst (u64 a) (u64 b) k)) ∧
  (tb (u64 a / u64 b) k = false → wrap64 (2 * rst (u64 a) (u64 b) (k + 1) + t) = wrap64 (rst (u64 a) (u64 b) k)) := by
 obtain ⟨h1, h2⟩ := Qdw (u64 a) (u64 b) k (Q51 a) hb
 obtain ⟨r0, r1⟩ := Qdx (u64 a) (u64 b) (k + 1) hb
 have hbl := Q7e b
 have htm : t = u64 a / 2 ^ k % 2 := by
  rw [ht, ← Q6e a k hk]
  unfold tb
  rcases Int.emod_two_eq (u64 a / 2 ^ k) with h | h <;> simp [h]
 rw [← htm] at h1 h2
 have ht2 : t = 0 ∨ t = 1 := by rw [ht]; split <;> simp
 generalize rst (u64 a) (u64 b) (k + 1) = r at *
 rw [h2, h1, Qby, Qc0 r r0 (by omega)]
 unfold Q3v
 rw [Qc7]
 refine ⟨fun h => ?_, fun h => by simp; omega, fun h => ?_, fun h => ?_⟩
 ·rw [Int.emod_eq_of_lt (by omega) (by omega)]; simp
 ·rw [if_pos (by simpa using h)]
 ·rw [if_neg (by simpa using h)]; congr 1; omega
set_option maxHeartbeats 4000000 in
theorem Qi7 (a b : Int) (w : World) (a0 : -9223372036854775808 ≤ a) (a1 : a ≤ 9223372036854775807) (b0 : -9223372036854775808 ≤ b) (b1 : b ≤ 9223372036854775807) (hb : 0 < u64 b) :
  Calls Try.prog 74 #[.int .i64 a, .int .i64 b] w fun e w' => e = .returned (.tuple #[.int .i64 (wrap64 (u64 a / u64 b)), .int .i64 (wrap64 (u64 a % u64 b))]) ∧ Ext w w' := by
 go_enter Try.func74, Try.ntmps74
 go_wp2_with fail
 refine (Q69 a _ a0 a1).mono ?_
 rintro e w1 ⟨rfl, hx1⟩
 go_wp2_with ((with_reducible refine Q5u (arr (tb a)) ?_ ?_ ?_ ?_ ?_ ?_); rfl; rfl; (simp [Q22]); (rw [Q22]; exact Q3e); exact Q5m _)
 rw [← Q76]
 go_loopw [8, 9] (fun r i wr => ∃ k : Nat, k ≤ 64 ∧ i = .int .i64 ((k : Int) - 1) ∧ r = .int .i64 (wrap64 (rst (u64 a) (u64 b) k)) ∧ Ext w wr ∧ Blk wr w1.heap.size 108 (arr (tb a)) ∧ Blk wr (w1.heap.size + 1) 108 (arr (Q21 (tb (u64 a / u64 b)) k))) (fun _ i _ => (intOf i + 1).toNat)
 case atStart =>
  refine ⟨64, by omega, rfl, ?_, ?_, ?_, ?_⟩
  ·rw [Qdv _ _ (Q51 a) (Q7e a)]; simp [wrap64]
  ·exact (hx1.alloc _).alloc _
  ·exact (Blk.new _ _ _).alloc _
  ·rw [Qhl]; have := Blk.new (w1.alloc (.cells (arr (tb a)) 108)) 108 (arr fun _ => false); simpa using this
 case round =>
  obtain ⟨k, hk, rfl, rfl, hx, hA, hZ⟩ := hrel
  have hs1 := hx1.size
  cases k with
  | succ k =>
   have hlt : k < 64 := by omega
   have hkk : ((k + 1 : Nat) : Int) - 1 = (k : Int) := by omega
   rw [hkk]
   have cA : wr.cell? ⟨w1.heap.size, k, none⟩ = some (.bool (tb a k)) := by rw [hA.cell, Q35 _ _ hlt]
   have cZ : wr.cell? ⟨w1.heap.size + 1, k, none⟩ = some (.bool (Q21 (tb (u64 a / u64 b)) (k + 1) k)) := by rw [hZ.cell, Q35 _ _ hlt]
   have fZ := hZ.frozen k
   have Hn : Hid (tb (u64 a / u64 b) k = true → Ext w (wr.setCell ⟨w1.heap.size + 1, k, none⟩ (.bool true)) ∧ Blk (wr.setCell ⟨w1.heap.size + 1, k, none⟩ (.bool true)) w1.heap.size 108 (arr (tb a)) ∧ Blk (wr.setCell ⟨w1.heap.size + 1, k, none⟩ (.bool true)) (w1.heap.size + 1) 108 (arr (Q21 (tb (u64 a / u64 b)) k))) := by
    intro hv
    refine ⟨hx.setCell (by simp; omega) _, hA.far (by simp) _, ?_⟩
    have := hZ.set_ k (.bool true)
    rwa [Qhk _ k hlt hv] at this
   have Hm : Hid (tb (u64 a / u64 b) k = false → Ext w wr ∧ Blk wr w1.heap.size 108 (arr (tb a)) ∧ Blk wr (w1.heap.size + 1) 108 (arr (Q21 (tb (u64 a / u64 b)) k))) := by
    intro hv
    rw [Qhm _ k hv] at hZ
    exact ⟨hx, hA, hZ⟩
   generalize Q21 (tb (u64 a / u64 b)) (k + 1) k = old at cZ
   have htwo := Qbx (rst (u64 a) (u64 b) (k + 1))
   have hone := Qbz (2 * rst (u64 a) (u64 b) (k + 1))
   obtain ⟨n1, n2, n3, n4⟩ := Qi8 a b hb k hlt (if tb a k then 1 else 0) rfl
   clear hA hZ hx
   cases hbit : tb a k
   all_goals
    rw [hbit] at cA n1 n3 n4
    simp only [Bool.false_eq_true, if_false, if_true, Int.add_zero] at n1 n3 n4
    by_cases ho : wrap64 (rst (u64 a) (u64 b) (k + 1)) < 0
    ·have q1 := n2 ho
     have HR := Lib.hid (n3 q1)
     have Q1 := Lib.hid q1
     clear n1 n2 n3 n4 q1 hbit
     go_wp2
     go_roundw
     case rel => exact ⟨k, by omega, by go_num, by rw [← HR.out], Hn.out Q1.out⟩
     case measure => first | (simp [intOf]; done) | (simp [intOf]; omega)
    ·have q1 := n1 ho
     cases hq : tb (u64 a / u64 b) k
     ·have HR := Lib.hid (n4 hq)
      have Q1 := Lib.hid hq
      have hnb := q1.2 hq
      clear n1 n2 n3 n4 q1 hbit hq
      go_wp2_with (go_at_call 62; refine (Q8v _ b _ (by unfold wrap64; omega) (by unfold wrap64; omega) b0 b1).mono ?_; rintro e w' ⟨rfl, rfl⟩)
      go_roundw
      case rel => exact ⟨k, by omega, by go_num, by rw [← HR.out], Hm.out Q1.out⟩
      case measure => first | (simp [intOf]; done) | (simp [intOf]; omega)
     ·have HR := Lib.hid (n3 hq)
      have Q1 := Lib.hid hq
      have hnb : Q3v (wrap64 (2 * rst (u64 a) (u64 b) (k + 1) + if tb a k = true then 1 else 0)) b = false := by
       rw [hbit]
       simp only [Bool.false_eq_true, if_false, if_true, Int.add_zero]
       rw [Bool.eq_false_iff]
       intro h
       rw [q1.1 h] at hq
       cases hq
      rw [hbit] at hnb
      simp only [Bool.false_eq_true, if_false, if_true, Int.add_zero] at hnb
      clear n1 n2 n3 n4 q1 hbit hq
      go_wp2_with (go_at_call 62; refine (Q8v _ b _ (by unfold wrap64; omega) (by unfold wrap64; omega) b0 b1).mono ?_; rintro e w' ⟨rfl, rfl⟩)
      go_roundw
      case rel => exact ⟨k, by omega, by go_num, by rw [← HR.out], Hn.out Q1.out⟩
      case measure => first | (simp [intOf]; done) | (simp [intOf]; omega)
  | zero =>
   go_wp2_with (first | ((with_reducible refine Q63 hZ ?_ Try.underlying108 ?_ ?_ ?_); rfl; rfl; (rw [Q22]; exact Q3e)) | (go_at_call 79; refine (of_c _ _).mono ?_; rintro e w3 ⟨rfl, hx3⟩))
   go_ret2
   refine ⟨Qa7 ?_, hx.trans hx3⟩
   have e1 : ofB (Q21 (tb (u64 a / u64 b)) 0) = wrap64 (u64 a / u64 b) := by
    rw [← Q5a]
    exact Q4u fun i _ => by simp [Q21]
   have e2 : rst (u64 a) (u64 b) 0 = u64 a % u64 b := by unfold rst; simp
   rw [← e1, ← e2]
   rfl
set_option maxHeartbeats 1000000 in
theorem Qag (c a b : Int) (w : World) (a0 : -9223372036854775808 ≤ a) (a1 : a ≤ 9223372036854775807) (b0 : -9223372036854775808 ≤ b) (b1 : b ≤ 9223372036854775807) :
  Calls Try.prog 46 #[.int .i64 c, .int .i64 a, .int .i64 b] w fun e w' => e = .returned (.bool (Q46 c a b)) ∧ w = w' := by
 go_enter Try.func46, Try.ntmps46
 go_wp2_with (go_at_call 62; refine (Q8v _ b _ a0 a1 b0 b1).mono ?_; rintro e w' ⟨rfl, rfl⟩)
 all_goals go_ret
 all_goals refine ⟨Q04 ?_, rfl⟩
 all_goals (rw [Bool.eq_iff_iff]; simp [Q46, Q3v]; grind)
theorem Qdh (b : Int) : Q16 (tb b) 6 = (sh b : Int) := by
 rw [Q5t]; unfold sh; omega
theorem Qc6 {b : Int} (b0 : -9223372036854775808 ≤ b) (b1 : b ≤ 9223372036854775807) : u64 b = 0 ↔ b = 0 := by unfold u64; omega
set_option maxHeartbeats 1000000 in
theorem Qei (op a b : Int) (w : World) (hop : op = 4 ∨ op = 5 ∨ op = 6) (a0 : -9223372036854775808 ≤ a) (a1 : a ≤ 9223372036854775807) (b0 : -9223372036854775808 ≤ b) (b1 : b ≤ 9223372036854775807) :
  Calls Try.prog 65 #[.int .i64 op, .int .i64 a, .int .i64 b] w fun e w' => e = .returned (.int .i64 (nop op a b)) ∧ Ext w w' := by
 rcases hop with rfl | rfl | rfl
 all_goals
  go_enter Try.func65, Try.ntmps65
  go_wp2_with (go_at_call 71; refine (Qii _ a b _ (by omega) a0 a1 b0 b1).mono ?_; rintro e w' ⟨rfl, hx⟩)
  go_ret
  refine ⟨Q14 ?_, hx⟩
  first | exact Qij a b | exact Qih a b | exact Qig a b
set_option maxHeartbeats 2000000 in
theorem Qeh (op a b : Int) (w : World) (hop : op = 9 ∨ op = 10) (a0 : -9223372036854775808 ≤ a) (a1 : a ≤ 9223372036854775807) (b0 : -9223372036854775808 ≤ b) (b1 : b ≤ 9223372036854775807) :
  Calls Try.prog 65 #[.int .i64 op, .int .i64 a, .int .i64 b] w fun e w' => e = .returned (.int .i64 (nop op a b)) ∧ Ext w w' := by
 rcases hop with rfl | rfl
 all_goals
  by_cases hb : b = 0
  ·subst hb
   go_enter Try.func65, Try.ntmps65
   go_wp2
   go_ret
   exact ⟨Q14 (by simp [nop, u64]), Ext.refl _⟩
  ·have hz : ¬ u64 b = 0 := fun h => hb ((Qc6 b0 b1).1 h)
   have hp : 0 < u64 b := by have := Q51 b; omega
   have Hz := Lib.hid hz
   have hbb : (b == 0) = false := by simpa using hb
   clear hz hb
   go_enter Try.func65, Try.ntmps65
   go_wp2_with (go_at_call 74; refine (Qi7 a b _ a0 a1 b0 b1 hp).mono ?_; rintro e w' ⟨rfl, hx⟩)
   go_ret
   refine ⟨Q14 ?_, hx⟩
   have := Hz.out
   simp [nop, this]
set_option maxHeartbeats 2000000 in
theorem Qeg (op a b : Int) (w : World) (hop : op = 7 ∨ op = 8) (a0 : -9223372036854775808 ≤ a) (a1 : a ≤ 9223372036854775807) (b0 : -9223372036854775808 ≤ b) (b1 : b ≤ 9223372036854775807) :
  Calls Try.prog 65 #[.int .i64 op, .int .i64 a, .int .i64 b] w fun e w' => e = .returned (.int .i64 (nop op a b)) ∧ Ext w w' := by
 rcases hop with rfl | rfl
 all_goals
  go_enter Try.func65, Try.ntmps65
  go_wp2_with fail
  refine (Q69 b _ b0 b1).mono ?_
  rintro e w1 ⟨rfl, hx1⟩
  go_wp2_with ((with_reducible refine Q5u (arr (tb b)) ?_ ?_ ?_ ?_ ?_ ?_); rfl; rfl; (simp [Q22]); (rw [Q22]; exact Q3e); exact Q5m _)
  go_loopw [8, 9, 10] (fun s p i wr => ∃ k : Nat, k ≤ 6 ∧ i = .int .i64 k ∧ s = .int .i64 (Q16 (tb b) k) ∧ p = .int .i64 (2 ^ k) ∧ Ext w wr ∧ Blk wr w1.heap.size 108 (arr (tb b))) (fun _ _ i _ => 6 - (intOf i).toNat)
  case atStart => exact ⟨0, by omega, rfl, by simp [Q16], by simp, hx1.alloc _, Blk.new _ _ _⟩
  case round =>
   obtain ⟨k, hk, rfl, rfl, rfl, hx, hA⟩ := hrel
   by_cases hlt : k < 6
   ·have cA : wr.cell? ⟨w1.heap.size, k, none⟩ = some (.bool (tb b k)) := by rw [hA.cell, Q35 _ _ (by omega)]
    have hp0 := pow_pos' k
    have hp1 : (2 : Int) ^ k ≤ 32 := by
     have : k = 0 ∨ k = 1 ∨ k = 2 ∨ k = 3 ∨ k = 4 ∨ k = 5 := by omega
     rcases this with rfl | rfl | rfl | rfl | rfl | rfl <;> decide
    have hs0 : 0 ≤ Q16 (tb b) k := by rw [Q5t]; exact Int.emod_nonneg _ (by omega)
    have hs1 : Q16 (tb b) k < 2 ^ k := by rw [Q5t]; exact Int.emod_lt_of_pos _ hp0
    have Hp : Hid ((2 : Int) ^ k + 2 ^ k = 2 ^ (k + 1)) := by show _ = _; rw [Int.pow_succ]; omega
    have Hk : Hid (Ext w wr ∧ Blk wr w1.heap.size 108 (arr (tb b))) := ⟨hx, hA⟩
    have Hs : Hid (Q16 (tb b) (k + 1) = Q16 (tb b) k + if tb b k then 2 ^ k else 0) := rfl
    clear hx hA hx1
    generalize (2 : Int) ^ k = p at *
    generalize Q16 (tb b) k = s at *
    cases hbit : tb b k
    all_goals
     rw [hbit] at cA Hs
     clear hbit
     go_wp2
     go_roundw
     case rel => exact ⟨k + 1, by omega, by go_num, by rw [Hs.out]; simp, by rw [Hp.out], Hk.out.1, Hk.out.2⟩
     case measure => first | (simp [intOf]; done) | (simp [intOf]; omega)
   ·obtain rfl : k = 6 := by omega
    have hs := Qdh b
    have hl := Q9s b
    clear hlt hk
    rw [hs]
    clear hs
    go_wp2_with (go_at_call 73; refine (Qd3 a _ _ (by omega) (by omega) a0 a1).mono ?_; rintro e w3 ⟨rfl, hx3⟩)
    go_ret
    refine ⟨Q14 ?_, hx.trans hx3⟩
    first | exact Qd2 a (sh b) hl | exact Qd0 a (sh b) hl
set_option maxHeartbeats 2000000 in
theorem Q7y (op a b : Int) (w : World) (a0 : -9223372036854775808 ≤ a) (a1 : a ≤ 9223372036854775807) (b0 : -9223372036854775808 ≤ b) (b1 : b ≤ 9223372036854775807) :
  Calls Try.prog 65 #[.int .i64 op, .int .i64 a, .int .i64 b] w fun e w' => e = .returned (.int .i64 (nop op a b)) ∧ Ext w w' := by
 by_cases h4 : op = 4 ∨ op = 5 ∨ op = 6
 ·exact Qei op a b w h4 a0 a1 b0 b1
 by_cases h7 : op = 7 ∨ op = 8
 ·exact Qeg op a b w h7 a0 a1 b0 b1
 by_cases h9 : op = 9 ∨ op = 10
 ·exact Qeh op a b w h9 a0 a1 b0 b1
 have q4 : (op == 4) = false := by rw [beq_eq_false_iff_ne]; omega
 have q5 : (op == 5) = false := by rw [beq_eq_false_iff_ne]; omega
 have q6 : (op == 6) = false := by rw [beq_eq_false_iff_ne]; omega
 have q7 : (op == 7) = false := by rw [beq_eq_false_iff_ne]; omega
 have q8 : (op == 8) = false := by rw [beq_eq_false_iff_ne]; omega
 have q9 : (op == 9) = false := by rw [beq_eq_false_iff_ne]; omega
 have q10 : (op == 10) = false := by rw [beq_eq_false_iff_ne]; omega
 clear h4 h7 h9
 go_enter Try.func65, Try.ntmps65
 go_wp2
 all_goals go_ret
 all_goals refine ⟨Q14 ?_, Ext.refl _⟩
 all_goals simp_all [nop]
end Go.Proofs.Ytalpnmjaafcpoaa
