/- Laid together from: FormR5, FormR6. -/
import Derived.Test.YtkkekbnhndfhjaaDoorTextPrintsB13

namespace Go.Proofs.YtkkekbnhndfhjaaDoor
open Go.ChangeShapes Go.WideShapes Go.ChangeAt Go.RowKit
set_option linter.unusedVariables false
set_option linter.unusedSimpArgs false
set_option maxRecDepth 100000 in
set_option maxHeartbeats 4000000 in
theorem rIns_7 (p : LProg) (vp : Value) (R : Int) (a b c n : Int) (fa : R64 a) (fb : R64 b) (fc : R64 c) (fn : R64 n) (fR : R64 R) (w : World) (hp : ProgAt w vp p) :
    Calls Tryd.prog 31 #[vp, .agg #[.int .i64 7, .int .i64 a, .int .i64 b, .int .i64 c, .int .i64 n], .int .i64 R] w fun e w' => e = .returned (.bool (insOk p R ⟨7, a, b, c, n⟩)) ∧ Ext w w' := by
  have HP := Lib.hid hp
  obtain ⟨v1, v2, rfl, ⟨hb, oa, cap, b0, o, rfl, hc1, hc2, hrow⟩, ⟨hf, ob, capb, b2, o2, rfl, hd1, hd2, hrow2⟩⟩ := hp
  have hlen := len_bd hc1 hc2
  have hlen2 := len_bd hd1 hd2
  have Hrow := Lib.hid hrow
  have hat := hrow.at_
  have r0 := fR.1; have r1 := fR.2
  have a0 := fa.1; have a1 := fa.2; have b00 := fb.1; have b01 := fb.2; have c0' := fc.1; have c1' := fc.2; have n0' := fn.1; have n1' := fn.2
  clear hc1 hc2 hd1 hd2 hrow hrow2 hb hf
  have Hgoal : ∀ r : Bool, Hid ((r = true ↔ insOk p R ⟨7, a, b, c, n⟩ = true) → insOk p R ⟨7, a, b, c, n⟩ = r) := fun r => Lib.hid fun h => by
    cases r <;> cases hh : insOk p R ⟨7, a, b, c, n⟩ <;> simp_all
  have Hins : Hid (insOk p R ⟨7, a, b, c, n⟩ = true ↔ (fok R 0 a = true ∧ fok R 0 b = true ∧ fok R 0 c = true) ∧ (0 ≤ n ∧ n < (p.code.length : Int))) := Lib.hid (by
    simp only [fok_iff]
    unfold insOk; simp [okIn]
    try omega)
  go_enter Tryd.func31, Tryd.ntmps31
  go_wp2_with fail
  obtain ⟨W, g, hg, hW, hx, bA, bB⟩ := blocks2 w #[.slice oa p.regs.length cap, .slice ob p.code.length capb] #[.int .i64 7, .int .i64 a, .int .i64 b, .int .i64 c, .int .i64 n] 25 46
  rw [hW, hg]
  have X := Lib.hid hx
  clear hW hg hx
  have C := (shape_7 W)
  (with_reducible refine C.mono ?_)
  clear C
  rintro e w1 ⟨rfl, hw1⟩
  have bS : Blk w1 W.heap.size 3 #[.int .i64 0, .int .i64 0, .int .i64 0] := by rw [hw1]; exact Blk.new W _ _
  have h1 : Ext W w1 := by rw [hw1]; exact (Ext.refl W).alloc _
  clear hw1
  generalize W.heap.size = ks at *
  have bA := bA.ext h1
  have bB := bB.ext h1
  have X := Lib.hid (X.out.trans h1)
  clear h1
  have p0 : w1.cell? ⟨g, 0, none⟩ = some (.slice oa p.regs.length cap) := by rw [bA.cell]; rfl
  have p1 : w1.cell? ⟨g, 1, none⟩ = some (.slice ob p.code.length capb) := by rw [bA.cell]; rfl
  have e0 : w1.cell? ⟨g + 1, 0, none⟩ = some (.int .i64 7) := by rw [bB.cell]; rfl
  have e1 : w1.cell? ⟨g + 1, 1, none⟩ = some (.int .i64 a) := by rw [bB.cell]; rfl
  have e2 : w1.cell? ⟨g + 1, 2, none⟩ = some (.int .i64 b) := by rw [bB.cell]; rfl
  have e3 : w1.cell? ⟨g + 1, 3, none⟩ = some (.int .i64 c) := by rw [bB.cell]; rfl
  have e4 : w1.cell? ⟨g + 1, 4, none⟩ = some (.int .i64 n) := by rw [bB.cell]; rfl
  go_wp2_with fail
  obtain ⟨w2, hw2⟩ : ∃ w2, w2 = w1.alloc (.cells #[.int .i64 a, .int .i64 b, .int .i64 c] 3) := ⟨_, rfl⟩
  have bF : Blk w2 w1.heap.size 3 #[.int .i64 a, .int .i64 b, .int .i64 c] := by rw [hw2]; exact Blk.new w1 _ _
  have h2 : Ext w1 w2 := by rw [hw2]; exact (Ext.refl w1).alloc _
  rw [← hw2]
  clear hw2
  generalize w1.heap.size = kf at *
  have bA := bA.ext h2
  have bB := bB.ext h2
  have bS := bS.ext h2
  have X := Lib.hid (X.out.trans h2)
  clear h2 p0 p1 e0 e1 e2 e3 e4
  go_loopw [11] (fun i wr => ∃ j : Nat, j ≤ 3 ∧ i = .int .i64 j ∧ Ext w2 wr ∧ ∀ t, t < j → fok R (tri 0 0 0 t) (tri a b c t) = true) (fun i _ => 3 - (intOf i).toNat)
  case atStart => exact ⟨0, by omega, rfl, Ext.refl _, fun t ht => by omega⟩
  case round =>
    obtain ⟨j, hj, rfl, hE, hok⟩ := hrel
    have bA := bA.ext hE
    have bB := bB.ext hE
    have bS := bS.ext hE
    have bF := bF.ext hE
    have X := Lib.hid (X.out.trans hE)
    have HE := Lib.hid hE
    have Hok := Lib.hid hok
    clear hE hok
    by_cases hlt : j < 3
    · have hjj : j = 0 ∨ j = 1 ∨ j = 2 := by omega
      rcases hjj with rfl | rfl | rfl
      · have s0 : wr.cell? ⟨ks, 0, none⟩ = some (.int .i64 0) := by rw [bS.cell]; rfl
        have f0 : wr.cell? ⟨kf, 0, none⟩ = some (.int .i64 a) := by rw [bF.cell]; rfl
        by_cases hz : a = 0
        · have hz1 : (a != 0) = false := by simpa using hz
          go_wp2
          go_roundw
          case rel => exact ⟨1, by omega, by first | rfl | go_num, HE.out, fun t ht => by
            rcases (show t < 0 ∨ t = 0 by omega) with h | h
            · exact Hok.out t h
            · subst h; exact fok_iff.2 ⟨fun _ => hz, fun h => absurd h (by decide)⟩⟩
          case measure => simp [intOf]
        · have hz1 : (a != 0) = true := by simpa using hz
          go_wp2
          go_ret
          refine ⟨ret_b ?_, X.out⟩
          cases hh : insOk p R ⟨7, a, b, c, n⟩
          · rfl
          · exfalso
            have hq := Hins.out.1 hh
            (simp [fok_iff] at hq) <;> omega
      · have s0 : wr.cell? ⟨ks, 1, none⟩ = some (.int .i64 0) := by rw [bS.cell]; rfl
        have f0 : wr.cell? ⟨kf, 1, none⟩ = some (.int .i64 b) := by rw [bF.cell]; rfl
        by_cases hz : b = 0
        · have hz1 : (b != 0) = false := by simpa using hz
          go_wp2
          go_roundw
          case rel => exact ⟨2, by omega, by first | rfl | go_num, HE.out, fun t ht => by
            rcases (show t < 1 ∨ t = 1 by omega) with h | h
            · exact Hok.out t h
            · subst h; exact fok_iff.2 ⟨fun _ => hz, fun h => absurd h (by decide)⟩⟩
          case measure => simp [intOf]
        · have hz1 : (b != 0) = true := by simpa using hz
          go_wp2
          go_ret
          refine ⟨ret_b ?_, X.out⟩
          cases hh : insOk p R ⟨7, a, b, c, n⟩
          · rfl
          · exfalso
            have hq := Hins.out.1 hh
            (simp [fok_iff] at hq) <;> omega
      · have s0 : wr.cell? ⟨ks, 2, none⟩ = some (.int .i64 0) := by rw [bS.cell]; rfl
        have f0 : wr.cell? ⟨kf, 2, none⟩ = some (.int .i64 c) := by rw [bF.cell]; rfl
        by_cases hz : c = 0
        · have hz1 : (c != 0) = false := by simpa using hz
          go_wp2
          go_roundw
          case rel => exact ⟨3, by omega, by first | rfl | go_num, HE.out, fun t ht => by
            rcases (show t < 2 ∨ t = 2 by omega) with h | h
            · exact Hok.out t h
            · subst h; exact fok_iff.2 ⟨fun _ => hz, fun h => absurd h (by decide)⟩⟩
          case measure => simp [intOf]
        · have hz1 : (c != 0) = true := by simpa using hz
          go_wp2
          go_ret
          refine ⟨ret_b ?_, X.out⟩
          cases hh : insOk p R ⟨7, a, b, c, n⟩
          · rfl
          · exfalso
            have hq := Hins.out.1 hh
            (simp [fok_iff] at hq) <;> omega
    · obtain rfl : j = 3 := by omega
      have k0 := Hok.out 0 (by omega)
      have k1 := Hok.out 1 (by omega)
      have k2 := Hok.out 2 (by omega)
      have K := Lib.hid (And.intro k0 (And.intro k1 k2))
      clear k0 k1 k2
      have p0 : wr.cell? ⟨g, 0, none⟩ = some (.slice oa p.regs.length cap) := by rw [bA.cell]; rfl
      have p1 : wr.cell? ⟨g, 1, none⟩ = some (.slice ob p.code.length capb) := by rw [bA.cell]; rfl
      have e0 : wr.cell? ⟨g + 1, 0, none⟩ = some (.int .i64 7) := by rw [bB.cell]; rfl
      have e1 : wr.cell? ⟨g + 1, 1, none⟩ = some (.int .i64 a) := by rw [bB.cell]; rfl
      have e2 : wr.cell? ⟨g + 1, 2, none⟩ = some (.int .i64 b) := by rw [bB.cell]; rfl
      have e3 : wr.cell? ⟨g + 1, 3, none⟩ = some (.int .i64 c) := by rw [bB.cell]; rfl
      have e4 : wr.cell? ⟨g + 1, 4, none⟩ = some (.int .i64 n) := by rw [bB.cell]; rfl
      by_cases q0 : 0 ≤ n
      · by_cases q1 : n < (p.code.length : Int)
        · go_wp2
          go_ret
          exact ⟨ret_b (Hins.out.2 ⟨⟨K.out.1, K.out.2.1, K.out.2.2⟩, by first | trivial | omega⟩).symm, X.out⟩
        · have q1d : decide (n < (p.code.length : Int)) = false := by simpa using q1
          go_wp2
          go_ret
          refine ⟨ret_b ?_, X.out⟩
          cases hh : insOk p R ⟨7, a, b, c, n⟩
          · rfl
          · exfalso
            have hq := Hins.out.1 hh
            (simp [fok_iff] at hq) <;> omega
      · have q0d : decide (0 ≤ n) = false := by simpa using q0
        go_wp2
        go_ret
        refine ⟨ret_b ?_, X.out⟩
        cases hh : insOk p R ⟨7, a, b, c, n⟩
        · rfl
        · exfalso
          have hq := Hins.out.1 hh
          (simp [fok_iff] at hq) <;> omega
set_option maxRecDepth 100000 in
set_option maxHeartbeats 4000000 in
theorem rIns_8 (p : LProg) (vp : Value) (R : Int) (a b c n : Int) (fa : R64 a) (fb : R64 b) (fc : R64 c) (fn : R64 n) (fR : R64 R) (w : World) (hp : ProgAt w vp p) :
    Calls Tryd.prog 31 #[vp, .agg #[.int .i64 8, .int .i64 a, .int .i64 b, .int .i64 c, .int .i64 n], .int .i64 R] w fun e w' => e = .returned (.bool (insOk p R ⟨8, a, b, c, n⟩)) ∧ Ext w w' := by
  have HP := Lib.hid hp
  obtain ⟨v1, v2, rfl, ⟨hb, oa, cap, b0, o, rfl, hc1, hc2, hrow⟩, ⟨hf, ob, capb, b2, o2, rfl, hd1, hd2, hrow2⟩⟩ := hp
  have hlen := len_bd hc1 hc2
  have hlen2 := len_bd hd1 hd2
  have Hrow := Lib.hid hrow
  have hat := hrow.at_
  have r0 := fR.1; have r1 := fR.2
  have a0 := fa.1; have a1 := fa.2; have b00 := fb.1; have b01 := fb.2; have c0' := fc.1; have c1' := fc.2; have n0' := fn.1; have n1' := fn.2
  clear hc1 hc2 hd1 hd2 hrow hrow2 hb hf
  have Hgoal : ∀ r : Bool, Hid ((r = true ↔ insOk p R ⟨8, a, b, c, n⟩ = true) → insOk p R ⟨8, a, b, c, n⟩ = r) := fun r => Lib.hid fun h => by
    cases r <;> cases hh : insOk p R ⟨8, a, b, c, n⟩ <;> simp_all
  have Hins : Hid (insOk p R ⟨8, a, b, c, n⟩ = true ↔ (fok R 1 a = true ∧ fok R 1 b = true ∧ fok R 2 c = true) ∧ (1 ≤ c ∧ c ≤ 4 ∧ 0 ≤ n ∧ n < (p.code.length : Int))) := Lib.hid (by
    simp only [fok_iff]
    unfold insOk; simp [okIn]
    try omega)
  go_enter Tryd.func31, Tryd.ntmps31
  go_wp2_with fail
  obtain ⟨W, g, hg, hW, hx, bA, bB⟩ := blocks2 w #[.slice oa p.regs.length cap, .slice ob p.code.length capb] #[.int .i64 8, .int .i64 a, .int .i64 b, .int .i64 c, .int .i64 n] 25 46
  rw [hW, hg]
  have X := Lib.hid hx
  clear hW hg hx
  have C := (shape_8 W)
  (with_reducible refine C.mono ?_)
  clear C
  rintro e w1 ⟨rfl, hw1⟩
  have bS : Blk w1 W.heap.size 3 #[.int .i64 1, .int .i64 1, .int .i64 2] := by rw [hw1]; exact Blk.new W _ _
  have h1 : Ext W w1 := by rw [hw1]; exact (Ext.refl W).alloc _
  clear hw1
  generalize W.heap.size = ks at *
  have bA := bA.ext h1
  have bB := bB.ext h1
  have X := Lib.hid (X.out.trans h1)
  clear h1
  have p0 : w1.cell? ⟨g, 0, none⟩ = some (.slice oa p.regs.length cap) := by rw [bA.cell]; rfl
  have p1 : w1.cell? ⟨g, 1, none⟩ = some (.slice ob p.code.length capb) := by rw [bA.cell]; rfl
  have e0 : w1.cell? ⟨g + 1, 0, none⟩ = some (.int .i64 8) := by rw [bB.cell]; rfl
  have e1 : w1.cell? ⟨g + 1, 1, none⟩ = some (.int .i64 a) := by rw [bB.cell]; rfl
  have e2 : w1.cell? ⟨g + 1, 2, none⟩ = some (.int .i64 b) := by rw [bB.cell]; rfl
  have e3 : w1.cell? ⟨g + 1, 3, none⟩ = some (.int .i64 c) := by rw [bB.cell]; rfl
  have e4 : w1.cell? ⟨g + 1, 4, none⟩ = some (.int .i64 n) := by rw [bB.cell]; rfl
  go_wp2_with fail
  obtain ⟨w2, hw2⟩ : ∃ w2, w2 = w1.alloc (.cells #[.int .i64 a, .int .i64 b, .int .i64 c] 3) := ⟨_, rfl⟩
  have bF : Blk w2 w1.heap.size 3 #[.int .i64 a, .int .i64 b, .int .i64 c] := by rw [hw2]; exact Blk.new w1 _ _
  have h2 : Ext w1 w2 := by rw [hw2]; exact (Ext.refl w1).alloc _
  rw [← hw2]
  clear hw2
  generalize w1.heap.size = kf at *
  have bA := bA.ext h2
  have bB := bB.ext h2
  have bS := bS.ext h2
  have X := Lib.hid (X.out.trans h2)
  clear h2 p0 p1 e0 e1 e2 e3 e4
  go_loopw [11] (fun i wr => ∃ j : Nat, j ≤ 3 ∧ i = .int .i64 j ∧ Ext w2 wr ∧ ∀ t, t < j → fok R (tri 1 1 2 t) (tri a b c t) = true) (fun i _ => 3 - (intOf i).toNat)
  case atStart => exact ⟨0, by omega, rfl, Ext.refl _, fun t ht => by omega⟩
  case round =>
    obtain ⟨j, hj, rfl, hE, hok⟩ := hrel
    have bA := bA.ext hE
    have bB := bB.ext hE
    have bS := bS.ext hE
    have bF := bF.ext hE
    have X := Lib.hid (X.out.trans hE)
    have HE := Lib.hid hE
    have Hok := Lib.hid hok
    clear hE hok
    by_cases hlt : j < 3
    · have hjj : j = 0 ∨ j = 1 ∨ j = 2 := by omega
      rcases hjj with rfl | rfl | rfl
      · have s0 : wr.cell? ⟨ks, 0, none⟩ = some (.int .i64 1) := by rw [bS.cell]; rfl
        have f0 : wr.cell? ⟨kf, 0, none⟩ = some (.int .i64 a) := by rw [bF.cell]; rfl
        by_cases hz : 0 ≤ a
        · by_cases hy : a < R
          · go_wp2
            go_roundw
            case rel => exact ⟨1, by omega, by first | rfl | go_num, HE.out, fun t ht => by
              rcases (show t < 0 ∨ t = 0 by omega) with h | h
              · exact Hok.out t h
              · subst h; exact fok_iff.2 ⟨fun h => absurd h (by decide), fun _ => ⟨hz, hy⟩⟩⟩
            case measure => simp [intOf]
          · go_wp2
            go_ret
            refine ⟨ret_b ?_, X.out⟩
            cases hh : insOk p R ⟨8, a, b, c, n⟩
            · rfl
            · exfalso
              have hq := Hins.out.1 hh
              (simp [fok_iff] at hq) <;> omega
        · go_wp2
          go_ret
          refine ⟨ret_b ?_, X.out⟩
          cases hh : insOk p R ⟨8, a, b, c, n⟩
          · rfl
          · exfalso
            have hq := Hins.out.1 hh
            (simp [fok_iff] at hq) <;> omega
      · have s0 : wr.cell? ⟨ks, 1, none⟩ = some (.int .i64 1) := by rw [bS.cell]; rfl
        have f0 : wr.cell? ⟨kf, 1, none⟩ = some (.int .i64 b) := by rw [bF.cell]; rfl
        by_cases hz : 0 ≤ b
        · by_cases hy : b < R
          · go_wp2
            go_roundw
            case rel => exact ⟨2, by omega, by first | rfl | go_num, HE.out, fun t ht => by
              rcases (show t < 1 ∨ t = 1 by omega) with h | h
              · exact Hok.out t h
              · subst h; exact fok_iff.2 ⟨fun h => absurd h (by decide), fun _ => ⟨hz, hy⟩⟩⟩
            case measure => simp [intOf]
          · go_wp2
            go_ret
            refine ⟨ret_b ?_, X.out⟩
            cases hh : insOk p R ⟨8, a, b, c, n⟩
            · rfl
            · exfalso
              have hq := Hins.out.1 hh
              (simp [fok_iff] at hq) <;> omega
        · go_wp2
          go_ret
          refine ⟨ret_b ?_, X.out⟩
          cases hh : insOk p R ⟨8, a, b, c, n⟩
          · rfl
          · exfalso
            have hq := Hins.out.1 hh
            (simp [fok_iff] at hq) <;> omega
      · have s0 : wr.cell? ⟨ks, 2, none⟩ = some (.int .i64 2) := by rw [bS.cell]; rfl
        have f0 : wr.cell? ⟨kf, 2, none⟩ = some (.int .i64 c) := by rw [bF.cell]; rfl
        go_wp2
        go_roundw
        case rel => exact ⟨3, by omega, by first | rfl | go_num, HE.out, fun t ht => by
          rcases (show t < 2 ∨ t = 2 by omega) with h | h
          · exact Hok.out t h
          · subst h; exact fok_iff.2 ⟨fun h => absurd h (by decide), fun h => absurd h (by decide)⟩⟩
        case measure => simp [intOf]
    · obtain rfl : j = 3 := by omega
      have k0 := Hok.out 0 (by omega)
      have k1 := Hok.out 1 (by omega)
      have k2 := Hok.out 2 (by omega)
      have K := Lib.hid (And.intro k0 (And.intro k1 k2))
      clear k0 k1 k2
      have p0 : wr.cell? ⟨g, 0, none⟩ = some (.slice oa p.regs.length cap) := by rw [bA.cell]; rfl
      have p1 : wr.cell? ⟨g, 1, none⟩ = some (.slice ob p.code.length capb) := by rw [bA.cell]; rfl
      have e0 : wr.cell? ⟨g + 1, 0, none⟩ = some (.int .i64 8) := by rw [bB.cell]; rfl
      have e1 : wr.cell? ⟨g + 1, 1, none⟩ = some (.int .i64 a) := by rw [bB.cell]; rfl
      have e2 : wr.cell? ⟨g + 1, 2, none⟩ = some (.int .i64 b) := by rw [bB.cell]; rfl
      have e3 : wr.cell? ⟨g + 1, 3, none⟩ = some (.int .i64 c) := by rw [bB.cell]; rfl
      have e4 : wr.cell? ⟨g + 1, 4, none⟩ = some (.int .i64 n) := by rw [bB.cell]; rfl
      by_cases q0 : 1 ≤ c
      · by_cases q1 : c ≤ 4
        · by_cases q2 : 0 ≤ n
          · by_cases q3 : n < (p.code.length : Int)
            · go_wp2
              go_ret
              exact ⟨ret_b (Hins.out.2 ⟨⟨K.out.1, K.out.2.1, K.out.2.2⟩, by first | trivial | omega⟩).symm, X.out⟩
            · have q3d : decide (n < (p.code.length : Int)) = false := by simpa using q3
              go_wp2
              go_ret
              refine ⟨ret_b ?_, X.out⟩
              cases hh : insOk p R ⟨8, a, b, c, n⟩
              · rfl
              · exfalso
                have hq := Hins.out.1 hh
                (simp [fok_iff] at hq) <;> omega
          · have q2d : decide (0 ≤ n) = false := by simpa using q2
            go_wp2
            go_ret
            refine ⟨ret_b ?_, X.out⟩
            cases hh : insOk p R ⟨8, a, b, c, n⟩
            · rfl
            · exfalso
              have hq := Hins.out.1 hh
              (simp [fok_iff] at hq) <;> omega
        · have q1d : decide (c ≤ 4) = false := by simpa using q1
          go_wp2
          go_ret
          refine ⟨ret_b ?_, X.out⟩
          cases hh : insOk p R ⟨8, a, b, c, n⟩
          · rfl
          · exfalso
            have hq := Hins.out.1 hh
            (simp [fok_iff] at hq) <;> omega
      · have q0d : decide (1 ≤ c) = false := by simpa using q0
        go_wp2
        go_ret
        refine ⟨ret_b ?_, X.out⟩
        cases hh : insOk p R ⟨8, a, b, c, n⟩
        · rfl
        · exfalso
          have hq := Hins.out.1 hh
          (simp [fok_iff] at hq) <;> omega
set_option maxRecDepth 100000 in
set_option maxHeartbeats 4000000 in
theorem rIns_9 (p : LProg) (vp : Value) (R : Int) (a b c n : Int) (fa : R64 a) (fb : R64 b) (fc : R64 c) (fn : R64 n) (fR : R64 R) (w : World) (hp : ProgAt w vp p) :
    Calls Tryd.prog 31 #[vp, .agg #[.int .i64 9, .int .i64 a, .int .i64 b, .int .i64 c, .int .i64 n], .int .i64 R] w fun e w' => e = .returned (.bool (insOk p R ⟨9, a, b, c, n⟩)) ∧ Ext w w' := by
  have HP := Lib.hid hp
  obtain ⟨v1, v2, rfl, ⟨hb, oa, cap, b0, o, rfl, hc1, hc2, hrow⟩, ⟨hf, ob, capb, b2, o2, rfl, hd1, hd2, hrow2⟩⟩ := hp
  have hlen := len_bd hc1 hc2
  have hlen2 := len_bd hd1 hd2
  have Hrow := Lib.hid hrow
  have hat := hrow.at_
  have r0 := fR.1; have r1 := fR.2
  have a0 := fa.1; have a1 := fa.2; have b00 := fb.1; have b01 := fb.2; have c0' := fc.1; have c1' := fc.2; have n0' := fn.1; have n1' := fn.2
  clear hc1 hc2 hd1 hd2 hrow hrow2 hb hf
  have Hgoal : ∀ r : Bool, Hid ((r = true ↔ insOk p R ⟨9, a, b, c, n⟩ = true) → insOk p R ⟨9, a, b, c, n⟩ = r) := fun r => Lib.hid fun h => by
    cases r <;> cases hh : insOk p R ⟨9, a, b, c, n⟩ <;> simp_all
  have Hins : Hid (insOk p R ⟨9, a, b, c, n⟩ = true ↔ (fok R 1 a = true ∧ fok R 0 b = true ∧ fok R 0 c = true ∧ n = 0) ∧ True) := Lib.hid (by
    simp only [fok_iff]
    unfold insOk; simp [okIn]
    try omega)
  go_enter Tryd.func31, Tryd.ntmps31
  go_wp2_with fail
  obtain ⟨W, g, hg, hW, hx, bA, bB⟩ := blocks2 w #[.slice oa p.regs.length cap, .slice ob p.code.length capb] #[.int .i64 9, .int .i64 a, .int .i64 b, .int .i64 c, .int .i64 n] 25 46
  rw [hW, hg]
  have X := Lib.hid hx
  clear hW hg hx
  have C := (shape_9 W)
  (with_reducible refine C.mono ?_)
  clear C
  rintro e w1 ⟨rfl, hw1⟩
  have bS : Blk w1 W.heap.size 3 #[.int .i64 1, .int .i64 0, .int .i64 0] := by rw [hw1]; exact Blk.new W _ _
  have h1 : Ext W w1 := by rw [hw1]; exact (Ext.refl W).alloc _
  clear hw1
  generalize W.heap.size = ks at *
  have bA := bA.ext h1
  have bB := bB.ext h1
  have X := Lib.hid (X.out.trans h1)
  clear h1
  have p0 : w1.cell? ⟨g, 0, none⟩ = some (.slice oa p.regs.length cap) := by rw [bA.cell]; rfl
  have p1 : w1.cell? ⟨g, 1, none⟩ = some (.slice ob p.code.length capb) := by rw [bA.cell]; rfl
  have e0 : w1.cell? ⟨g + 1, 0, none⟩ = some (.int .i64 9) := by rw [bB.cell]; rfl
  have e1 : w1.cell? ⟨g + 1, 1, none⟩ = some (.int .i64 a) := by rw [bB.cell]; rfl
  have e2 : w1.cell? ⟨g + 1, 2, none⟩ = some (.int .i64 b) := by rw [bB.cell]; rfl
  have e3 : w1.cell? ⟨g + 1, 3, none⟩ = some (.int .i64 c) := by rw [bB.cell]; rfl
  have e4 : w1.cell? ⟨g + 1, 4, none⟩ = some (.int .i64 n) := by rw [bB.cell]; rfl
  by_cases hn : n = 0
  rotate_left
  · have hn1 : (n != 0) = true := by simpa using hn
    go_wp2
    go_ret
    refine ⟨ret_b ?_, X.out⟩
    cases hh : insOk p R ⟨9, a, b, c, n⟩
    · rfl
    · exfalso
      have hq := Hins.out.1 hh
      (simp [fok_iff] at hq) <;> omega
  subst hn
  clear n0' n1'
  go_wp2_with fail
  obtain ⟨w2, hw2⟩ : ∃ w2, w2 = w1.alloc (.cells #[.int .i64 a, .int .i64 b, .int .i64 c] 3) := ⟨_, rfl⟩
  have bF : Blk w2 w1.heap.size 3 #[.int .i64 a, .int .i64 b, .int .i64 c] := by rw [hw2]; exact Blk.new w1 _ _
  have h2 : Ext w1 w2 := by rw [hw2]; exact (Ext.refl w1).alloc _
  rw [← hw2]
  clear hw2
  generalize w1.heap.size = kf at *
  have bA := bA.ext h2
  have bB := bB.ext h2
  have bS := bS.ext h2
  have X := Lib.hid (X.out.trans h2)
  clear h2 p0 p1 e0 e1 e2 e3 e4
  go_loopw [11] (fun i wr => ∃ j : Nat, j ≤ 3 ∧ i = .int .i64 j ∧ Ext w2 wr ∧ ∀ t, t < j → fok R (tri 1 0 0 t) (tri a b c t) = true) (fun i _ => 3 - (intOf i).toNat)
  case atStart => exact ⟨0, by omega, rfl, Ext.refl _, fun t ht => by omega⟩
  case round =>
    obtain ⟨j, hj, rfl, hE, hok⟩ := hrel
    have bA := bA.ext hE
    have bB := bB.ext hE
    have bS := bS.ext hE
    have bF := bF.ext hE
    have X := Lib.hid (X.out.trans hE)
    have HE := Lib.hid hE
    have Hok := Lib.hid hok
    clear hE hok
    by_cases hlt : j < 3
    · have hjj : j = 0 ∨ j = 1 ∨ j = 2 := by omega
      rcases hjj with rfl | rfl | rfl
      · have s0 : wr.cell? ⟨ks, 0, none⟩ = some (.int .i64 1) := by rw [bS.cell]; rfl
        have f0 : wr.cell? ⟨kf, 0, none⟩ = some (.int .i64 a) := by rw [bF.cell]; rfl
        by_cases hz : 0 ≤ a
        · by_cases hy : a < R
          · go_wp2
            go_roundw
            case rel => exact ⟨1, by omega, by first | rfl | go_num, HE.out, fun t ht => by
              rcases (show t < 0 ∨ t = 0 by omega) with h | h
              · exact Hok.out t h
              · subst h; exact fok_iff.2 ⟨fun h => absurd h (by decide), fun _ => ⟨hz, hy⟩⟩⟩
            case measure => simp [intOf]
          · go_wp2
            go_ret
            refine ⟨ret_b ?_, X.out⟩
            cases hh : insOk p R ⟨9, a, b, c, 0⟩
            · rfl
            · exfalso
              have hq := Hins.out.1 hh
              (simp [fok_iff] at hq) <;> omega
        · go_wp2
          go_ret
          refine ⟨ret_b ?_, X.out⟩
          cases hh : insOk p R ⟨9, a, b, c, 0⟩
          · rfl
          · exfalso
            have hq := Hins.out.1 hh
            (simp [fok_iff] at hq) <;> omega
      · have s0 : wr.cell? ⟨ks, 1, none⟩ = some (.int .i64 0) := by rw [bS.cell]; rfl
        have f0 : wr.cell? ⟨kf, 1, none⟩ = some (.int .i64 b) := by rw [bF.cell]; rfl
        by_cases hz : b = 0
        · have hz1 : (b != 0) = false := by simpa using hz
          go_wp2
          go_roundw
          case rel => exact ⟨2, by omega, by first | rfl | go_num, HE.out, fun t ht => by
            rcases (show t < 1 ∨ t = 1 by omega) with h | h
            · exact Hok.out t h
            · subst h; exact fok_iff.2 ⟨fun _ => hz, fun h => absurd h (by decide)⟩⟩
          case measure => simp [intOf]
        · have hz1 : (b != 0) = true := by simpa using hz
          go_wp2
          go_ret
          refine ⟨ret_b ?_, X.out⟩
          cases hh : insOk p R ⟨9, a, b, c, 0⟩
          · rfl
          · exfalso
            have hq := Hins.out.1 hh
            (simp [fok_iff] at hq) <;> omega
      · have s0 : wr.cell? ⟨ks, 2, none⟩ = some (.int .i64 0) := by rw [bS.cell]; rfl
        have f0 : wr.cell? ⟨kf, 2, none⟩ = some (.int .i64 c) := by rw [bF.cell]; rfl
        by_cases hz : c = 0
        · have hz1 : (c != 0) = false := by simpa using hz
          go_wp2
          go_roundw
          case rel => exact ⟨3, by omega, by first | rfl | go_num, HE.out, fun t ht => by
            rcases (show t < 2 ∨ t = 2 by omega) with h | h
            · exact Hok.out t h
            · subst h; exact fok_iff.2 ⟨fun _ => hz, fun h => absurd h (by decide)⟩⟩
          case measure => simp [intOf]
        · have hz1 : (c != 0) = true := by simpa using hz
          go_wp2
          go_ret
          refine ⟨ret_b ?_, X.out⟩
          cases hh : insOk p R ⟨9, a, b, c, 0⟩
          · rfl
          · exfalso
            have hq := Hins.out.1 hh
            (simp [fok_iff] at hq) <;> omega
    · obtain rfl : j = 3 := by omega
      have k0 := Hok.out 0 (by omega)
      have k1 := Hok.out 1 (by omega)
      have k2 := Hok.out 2 (by omega)
      have K := Lib.hid (And.intro k0 (And.intro k1 k2))
      clear k0 k1 k2
      have p0 : wr.cell? ⟨g, 0, none⟩ = some (.slice oa p.regs.length cap) := by rw [bA.cell]; rfl
      have p1 : wr.cell? ⟨g, 1, none⟩ = some (.slice ob p.code.length capb) := by rw [bA.cell]; rfl
      have e0 : wr.cell? ⟨g + 1, 0, none⟩ = some (.int .i64 9) := by rw [bB.cell]; rfl
      have e1 : wr.cell? ⟨g + 1, 1, none⟩ = some (.int .i64 a) := by rw [bB.cell]; rfl
      have e2 : wr.cell? ⟨g + 1, 2, none⟩ = some (.int .i64 b) := by rw [bB.cell]; rfl
      have e3 : wr.cell? ⟨g + 1, 3, none⟩ = some (.int .i64 c) := by rw [bB.cell]; rfl
      have e4 : wr.cell? ⟨g + 1, 4, none⟩ = some (.int .i64 0) := by rw [bB.cell]; rfl
      go_wp2
      go_ret
      exact ⟨ret_b (Hins.out.2 ⟨⟨K.out.1, K.out.2.1, K.out.2.2, by trivial⟩, by first | trivial | omega⟩).symm, X.out⟩
set_option maxRecDepth 100000 in
set_option maxHeartbeats 4000000 in
theorem rIns_10 (p : LProg) (vp : Value) (R : Int) (a b c n : Int) (fa : R64 a) (fb : R64 b) (fc : R64 c) (fn : R64 n) (fR : R64 R) (w : World) (hp : ProgAt w vp p) :
    Calls Tryd.prog 31 #[vp, .agg #[.int .i64 10, .int .i64 a, .int .i64 b, .int .i64 c, .int .i64 n], .int .i64 R] w fun e w' => e = .returned (.bool (insOk p R ⟨10, a, b, c, n⟩)) ∧ Ext w w' := by
  have HP := Lib.hid hp
  obtain ⟨v1, v2, rfl, ⟨hb, oa, cap, b0, o, rfl, hc1, hc2, hrow⟩, ⟨hf, ob, capb, b2, o2, rfl, hd1, hd2, hrow2⟩⟩ := hp
  have hlen := len_bd hc1 hc2
  have hlen2 := len_bd hd1 hd2
  have Hrow := Lib.hid hrow
  have hat := hrow.at_
  have r0 := fR.1; have r1 := fR.2
  have a0 := fa.1; have a1 := fa.2; have b00 := fb.1; have b01 := fb.2; have c0' := fc.1; have c1' := fc.2; have n0' := fn.1; have n1' := fn.2
  clear hc1 hc2 hd1 hd2 hrow hrow2 hb hf
  have Hgoal : ∀ r : Bool, Hid ((r = true ↔ insOk p R ⟨10, a, b, c, n⟩ = true) → insOk p R ⟨10, a, b, c, n⟩ = r) := fun r => Lib.hid fun h => by
    cases r <;> cases hh : insOk p R ⟨10, a, b, c, n⟩ <;> simp_all
  have Hins : Hid (insOk p R ⟨10, a, b, c, n⟩ = true ↔ (fok R 1 a = true ∧ fok R 1 b = true ∧ fok R 0 c = true) ∧ True) := Lib.hid (by
    simp only [fok_iff]
    unfold insOk; simp [okIn]
    try omega)
  go_enter Tryd.func31, Tryd.ntmps31
  go_wp2_with fail
  obtain ⟨W, g, hg, hW, hx, bA, bB⟩ := blocks2 w #[.slice oa p.regs.length cap, .slice ob p.code.length capb] #[.int .i64 10, .int .i64 a, .int .i64 b, .int .i64 c, .int .i64 n] 25 46
  rw [hW, hg]
  have X := Lib.hid hx
  clear hW hg hx
  have C := (shape_10 W)
  (with_reducible refine C.mono ?_)
  clear C
  rintro e w1 ⟨rfl, hw1⟩
  have bS : Blk w1 W.heap.size 3 #[.int .i64 1, .int .i64 1, .int .i64 0] := by rw [hw1]; exact Blk.new W _ _
  have h1 : Ext W w1 := by rw [hw1]; exact (Ext.refl W).alloc _
  clear hw1
  generalize W.heap.size = ks at *
  have bA := bA.ext h1
  have bB := bB.ext h1
  have X := Lib.hid (X.out.trans h1)
  clear h1
  have p0 : w1.cell? ⟨g, 0, none⟩ = some (.slice oa p.regs.length cap) := by rw [bA.cell]; rfl
  have p1 : w1.cell? ⟨g, 1, none⟩ = some (.slice ob p.code.length capb) := by rw [bA.cell]; rfl
  have e0 : w1.cell? ⟨g + 1, 0, none⟩ = some (.int .i64 10) := by rw [bB.cell]; rfl
  have e1 : w1.cell? ⟨g + 1, 1, none⟩ = some (.int .i64 a) := by rw [bB.cell]; rfl
  have e2 : w1.cell? ⟨g + 1, 2, none⟩ = some (.int .i64 b) := by rw [bB.cell]; rfl
  have e3 : w1.cell? ⟨g + 1, 3, none⟩ = some (.int .i64 c) := by rw [bB.cell]; rfl
  have e4 : w1.cell? ⟨g + 1, 4, none⟩ = some (.int .i64 n) := by rw [bB.cell]; rfl
  go_wp2_with fail
  obtain ⟨w2, hw2⟩ : ∃ w2, w2 = w1.alloc (.cells #[.int .i64 a, .int .i64 b, .int .i64 c] 3) := ⟨_, rfl⟩
  have bF : Blk w2 w1.heap.size 3 #[.int .i64 a, .int .i64 b, .int .i64 c] := by rw [hw2]; exact Blk.new w1 _ _
  have h2 : Ext w1 w2 := by rw [hw2]; exact (Ext.refl w1).alloc _
  rw [← hw2]
  clear hw2
  generalize w1.heap.size = kf at *
  have bA := bA.ext h2
  have bB := bB.ext h2
  have bS := bS.ext h2
  have X := Lib.hid (X.out.trans h2)
  clear h2 p0 p1 e0 e1 e2 e3 e4
  go_loopw [11] (fun i wr => ∃ j : Nat, j ≤ 3 ∧ i = .int .i64 j ∧ Ext w2 wr ∧ ∀ t, t < j → fok R (tri 1 1 0 t) (tri a b c t) = true) (fun i _ => 3 - (intOf i).toNat)
  case atStart => exact ⟨0, by omega, rfl, Ext.refl _, fun t ht => by omega⟩
  case round =>
    obtain ⟨j, hj, rfl, hE, hok⟩ := hrel
    have bA := bA.ext hE
    have bB := bB.ext hE
    have bS := bS.ext hE
    have bF := bF.ext hE
    have X := Lib.hid (X.out.trans hE)
    have HE := Lib.hid hE
    have Hok := Lib.hid hok
    clear hE hok
    by_cases hlt : j < 3
    · have hjj : j = 0 ∨ j = 1 ∨ j = 2 := by omega
      rcases hjj with rfl | rfl | rfl
      · have s0 : wr.cell? ⟨ks, 0, none⟩ = some (.int .i64 1) := by rw [bS.cell]; rfl
        have f0 : wr.cell? ⟨kf, 0, none⟩ = some (.int .i64 a) := by rw [bF.cell]; rfl
        by_cases hz : 0 ≤ a
        · by_cases hy : a < R
          · go_wp2
            go_roundw
            case rel => exact ⟨1, by omega, by first | rfl | go_num, HE.out, fun t ht => by
              rcases (show t < 0 ∨ t = 0 by omega) with h | h
              · exact Hok.out t h
              · subst h; exact fok_iff.2 ⟨fun h => absurd h (by decide), fun _ => ⟨hz, hy⟩⟩⟩
            case measure => simp [intOf]
          · go_wp2
            go_ret
            refine ⟨ret_b ?_, X.out⟩
            cases hh : insOk p R ⟨10, a, b, c, n⟩
            · rfl
            · exfalso
              have hq := Hins.out.1 hh
              (simp [fok_iff] at hq) <;> omega
        · go_wp2
          go_ret
          refine ⟨ret_b ?_, X.out⟩
          cases hh : insOk p R ⟨10, a, b, c, n⟩
          · rfl
          · exfalso
            have hq := Hins.out.1 hh
            (simp [fok_iff] at hq) <;> omega
      · have s0 : wr.cell? ⟨ks, 1, none⟩ = some (.int .i64 1) := by rw [bS.cell]; rfl
        have f0 : wr.cell? ⟨kf, 1, none⟩ = some (.int .i64 b) := by rw [bF.cell]; rfl
        by_cases hz : 0 ≤ b
        · by_cases hy : b < R
          · go_wp2
            go_roundw
            case rel => exact ⟨2, by omega, by first | rfl | go_num, HE.out, fun t ht => by
              rcases (show t < 1 ∨ t = 1 by omega) with h | h
              · exact Hok.out t h
              · subst h; exact fok_iff.2 ⟨fun h => absurd h (by decide), fun _ => ⟨hz, hy⟩⟩⟩
            case measure => simp [intOf]
          · go_wp2
            go_ret
            refine ⟨ret_b ?_, X.out⟩
            cases hh : insOk p R ⟨10, a, b, c, n⟩
            · rfl
            · exfalso
              have hq := Hins.out.1 hh
              (simp [fok_iff] at hq) <;> omega
        · go_wp2
          go_ret
          refine ⟨ret_b ?_, X.out⟩
          cases hh : insOk p R ⟨10, a, b, c, n⟩
          · rfl
          · exfalso
            have hq := Hins.out.1 hh
            (simp [fok_iff] at hq) <;> omega
      · have s0 : wr.cell? ⟨ks, 2, none⟩ = some (.int .i64 0) := by rw [bS.cell]; rfl
        have f0 : wr.cell? ⟨kf, 2, none⟩ = some (.int .i64 c) := by rw [bF.cell]; rfl
        by_cases hz : c = 0
        · have hz1 : (c != 0) = false := by simpa using hz
          go_wp2
          go_roundw
          case rel => exact ⟨3, by omega, by first | rfl | go_num, HE.out, fun t ht => by
            rcases (show t < 2 ∨ t = 2 by omega) with h | h
            · exact Hok.out t h
            · subst h; exact fok_iff.2 ⟨fun _ => hz, fun h => absurd h (by decide)⟩⟩
          case measure => simp [intOf]
        · have hz1 : (c != 0) = true := by simpa using hz
          go_wp2
          go_ret
          refine ⟨ret_b ?_, X.out⟩
          cases hh : insOk p R ⟨10, a, b, c, n⟩
          · rfl
          · exfalso
            have hq := Hins.out.1 hh
            (simp [fok_iff] at hq) <;> omega
    · obtain rfl : j = 3 := by omega
      have k0 := Hok.out 0 (by omega)
      have k1 := Hok.out 1 (by omega)
      have k2 := Hok.out 2 (by omega)
      have K := Lib.hid (And.intro k0 (And.intro k1 k2))
      clear k0 k1 k2
      have p0 : wr.cell? ⟨g, 0, none⟩ = some (.slice oa p.regs.length cap) := by rw [bA.cell]; rfl
      have p1 : wr.cell? ⟨g, 1, none⟩ = some (.slice ob p.code.length capb) := by rw [bA.cell]; rfl
      have e0 : wr.cell? ⟨g + 1, 0, none⟩ = some (.int .i64 10) := by rw [bB.cell]; rfl
      have e1 : wr.cell? ⟨g + 1, 1, none⟩ = some (.int .i64 a) := by rw [bB.cell]; rfl
      have e2 : wr.cell? ⟨g + 1, 2, none⟩ = some (.int .i64 b) := by rw [bB.cell]; rfl
      have e3 : wr.cell? ⟨g + 1, 3, none⟩ = some (.int .i64 c) := by rw [bB.cell]; rfl
      have e4 : wr.cell? ⟨g + 1, 4, none⟩ = some (.int .i64 n) := by rw [bB.cell]; rfl
      go_wp2
      go_ret
      exact ⟨ret_b (Hins.out.2 ⟨⟨K.out.1, K.out.2.1, K.out.2.2⟩, by first | trivial | omega⟩).symm, X.out⟩
set_option maxRecDepth 100000 in
set_option maxHeartbeats 4000000 in
theorem rIns_11 (p : LProg) (vp : Value) (R : Int) (a b c n : Int) (fa : R64 a) (fb : R64 b) (fc : R64 c) (fn : R64 n) (fR : R64 R) (w : World) (hp : ProgAt w vp p) :
    Calls Tryd.prog 31 #[vp, .agg #[.int .i64 11, .int .i64 a, .int .i64 b, .int .i64 c, .int .i64 n], .int .i64 R] w fun e w' => e = .returned (.bool (insOk p R ⟨11, a, b, c, n⟩)) ∧ Ext w w' := by
  have HP := Lib.hid hp
  obtain ⟨v1, v2, rfl, ⟨hb, oa, cap, b0, o, rfl, hc1, hc2, hrow⟩, ⟨hf, ob, capb, b2, o2, rfl, hd1, hd2, hrow2⟩⟩ := hp
  have hlen := len_bd hc1 hc2
  have hlen2 := len_bd hd1 hd2
  have Hrow := Lib.hid hrow
  have hat := hrow.at_
  have r0 := fR.1; have r1 := fR.2
  have a0 := fa.1; have a1 := fa.2; have b00 := fb.1; have b01 := fb.2; have c0' := fc.1; have c1' := fc.2; have n0' := fn.1; have n1' := fn.2
  clear hc1 hc2 hd1 hd2 hrow hrow2 hb hf
  have Hgoal : ∀ r : Bool, Hid ((r = true ↔ insOk p R ⟨11, a, b, c, n⟩ = true) → insOk p R ⟨11, a, b, c, n⟩ = r) := fun r => Lib.hid fun h => by
    cases r <;> cases hh : insOk p R ⟨11, a, b, c, n⟩ <;> simp_all
  have Hins : Hid (insOk p R ⟨11, a, b, c, n⟩ = true ↔ (fok R 1 a = true ∧ fok R 0 b = true ∧ fok R 0 c = true) ∧ (1 ≤ n ∧ n ≤ 64)) := Lib.hid (by
    simp only [fok_iff]
    unfold insOk; simp [okIn]
    try omega)
  go_enter Tryd.func31, Tryd.ntmps31
  go_wp2_with fail
  obtain ⟨W, g, hg, hW, hx, bA, bB⟩ := blocks2 w #[.slice oa p.regs.length cap, .slice ob p.code.length capb] #[.int .i64 11, .int .i64 a, .int .i64 b, .int .i64 c, .int .i64 n] 25 46
  rw [hW, hg]
  have X := Lib.hid hx
  clear hW hg hx
  have C := (shape_11 W)
  (with_reducible refine C.mono ?_)
  clear C
  rintro e w1 ⟨rfl, hw1⟩
  have bS : Blk w1 W.heap.size 3 #[.int .i64 1, .int .i64 0, .int .i64 0] := by rw [hw1]; exact Blk.new W _ _
  have h1 : Ext W w1 := by rw [hw1]; exact (Ext.refl W).alloc _
  clear hw1
  generalize W.heap.size = ks at *
  have bA := bA.ext h1
  have bB := bB.ext h1
  have X := Lib.hid (X.out.trans h1)
  clear h1
  have p0 : w1.cell? ⟨g, 0, none⟩ = some (.slice oa p.regs.length cap) := by rw [bA.cell]; rfl
  have p1 : w1.cell? ⟨g, 1, none⟩ = some (.slice ob p.code.length capb) := by rw [bA.cell]; rfl
  have e0 : w1.cell? ⟨g + 1, 0, none⟩ = some (.int .i64 11) := by rw [bB.cell]; rfl
  have e1 : w1.cell? ⟨g + 1, 1, none⟩ = some (.int .i64 a) := by rw [bB.cell]; rfl
  have e2 : w1.cell? ⟨g + 1, 2, none⟩ = some (.int .i64 b) := by rw [bB.cell]; rfl
  have e3 : w1.cell? ⟨g + 1, 3, none⟩ = some (.int .i64 c) := by rw [bB.cell]; rfl
  have e4 : w1.cell? ⟨g + 1, 4, none⟩ = some (.int .i64 n) := by rw [bB.cell]; rfl
  go_wp2_with fail
  obtain ⟨w2, hw2⟩ : ∃ w2, w2 = w1.alloc (.cells #[.int .i64 a, .int .i64 b, .int .i64 c] 3) := ⟨_, rfl⟩
  have bF : Blk w2 w1.heap.size 3 #[.int .i64 a, .int .i64 b, .int .i64 c] := by rw [hw2]; exact Blk.new w1 _ _
  have h2 : Ext w1 w2 := by rw [hw2]; exact (Ext.refl w1).alloc _
  rw [← hw2]
  clear hw2
  generalize w1.heap.size = kf at *
  have bA := bA.ext h2
  have bB := bB.ext h2
  have bS := bS.ext h2
  have X := Lib.hid (X.out.trans h2)
  clear h2 p0 p1 e0 e1 e2 e3 e4
  go_loopw [11] (fun i wr => ∃ j : Nat, j ≤ 3 ∧ i = .int .i64 j ∧ Ext w2 wr ∧ ∀ t, t < j → fok R (tri 1 0 0 t) (tri a b c t) = true) (fun i _ => 3 - (intOf i).toNat)
  case atStart => exact ⟨0, by omega, rfl, Ext.refl _, fun t ht => by omega⟩
  case round =>
    obtain ⟨j, hj, rfl, hE, hok⟩ := hrel
    have bA := bA.ext hE
    have bB := bB.ext hE
    have bS := bS.ext hE
    have bF := bF.ext hE
    have X := Lib.hid (X.out.trans hE)
    have HE := Lib.hid hE
    have Hok := Lib.hid hok
    clear hE hok
    by_cases hlt : j < 3
    · have hjj : j = 0 ∨ j = 1 ∨ j = 2 := by omega
      rcases hjj with rfl | rfl | rfl
      · have s0 : wr.cell? ⟨ks, 0, none⟩ = some (.int .i64 1) := by rw [bS.cell]; rfl
        have f0 : wr.cell? ⟨kf, 0, none⟩ = some (.int .i64 a) := by rw [bF.cell]; rfl
        by_cases hz : 0 ≤ a
        · by_cases hy : a < R
          · go_wp2
            go_roundw
            case rel => exact ⟨1, by omega, by first | rfl | go_num, HE.out, fun t ht => by
              rcases (show t < 0 ∨ t = 0 by omega) with h | h
              · exact Hok.out t h
              · subst h; exact fok_iff.2 ⟨fun h => absurd h (by decide), fun _ => ⟨hz, hy⟩⟩⟩
            case measure => simp [intOf]
          · go_wp2
            go_ret
            refine ⟨ret_b ?_, X.out⟩
            cases hh : insOk p R ⟨11, a, b, c, n⟩
            · rfl
            · exfalso
              have hq := Hins.out.1 hh
              (simp [fok_iff] at hq) <;> omega
        · go_wp2
          go_ret
          refine ⟨ret_b ?_, X.out⟩
          cases hh : insOk p R ⟨11, a, b, c, n⟩
          · rfl
          · exfalso
            have hq := Hins.out.1 hh
            (simp [fok_iff] at hq) <;> omega
      · have s0 : wr.cell? ⟨ks, 1, none⟩ = some (.int .i64 0) := by rw [bS.cell]; rfl
        have f0 : wr.cell? ⟨kf, 1, none⟩ = some (.int .i64 b) := by rw [bF.cell]; rfl
        by_cases hz : b = 0
        · have hz1 : (b != 0) = false := by simpa using hz
          go_wp2
          go_roundw
          case rel => exact ⟨2, by omega, by first | rfl | go_num, HE.out, fun t ht => by
            rcases (show t < 1 ∨ t = 1 by omega) with h | h
            · exact Hok.out t h
            · subst h; exact fok_iff.2 ⟨fun _ => hz, fun h => absurd h (by decide)⟩⟩
          case measure => simp [intOf]
        · have hz1 : (b != 0) = true := by simpa using hz
          go_wp2
          go_ret
          refine ⟨ret_b ?_, X.out⟩
          cases hh : insOk p R ⟨11, a, b, c, n⟩
          · rfl
          · exfalso
            have hq := Hins.out.1 hh
            (simp [fok_iff] at hq) <;> omega
      · have s0 : wr.cell? ⟨ks, 2, none⟩ = some (.int .i64 0) := by rw [bS.cell]; rfl
        have f0 : wr.cell? ⟨kf, 2, none⟩ = some (.int .i64 c) := by rw [bF.cell]; rfl
        by_cases hz : c = 0
        · have hz1 : (c != 0) = false := by simpa using hz
          go_wp2
          go_roundw
          case rel => exact ⟨3, by omega, by first | rfl | go_num, HE.out, fun t ht => by
            rcases (show t < 2 ∨ t = 2 by omega) with h | h
            · exact Hok.out t h
            · subst h; exact fok_iff.2 ⟨fun _ => hz, fun h => absurd h (by decide)⟩⟩
          case measure => simp [intOf]
        · have hz1 : (c != 0) = true := by simpa using hz
          go_wp2
          go_ret
          refine ⟨ret_b ?_, X.out⟩
          cases hh : insOk p R ⟨11, a, b, c, n⟩
          · rfl
          · exfalso
            have hq := Hins.out.1 hh
            (simp [fok_iff] at hq) <;> omega
    · obtain rfl : j = 3 := by omega
      have k0 := Hok.out 0 (by omega)
      have k1 := Hok.out 1 (by omega)
      have k2 := Hok.out 2 (by omega)
      have K := Lib.hid (And.intro k0 (And.intro k1 k2))
      clear k0 k1 k2
      have p0 : wr.cell? ⟨g, 0, none⟩ = some (.slice oa p.regs.length cap) := by rw [bA.cell]; rfl
      have p1 : wr.cell? ⟨g, 1, none⟩ = some (.slice ob p.code.length capb) := by rw [bA.cell]; rfl
      have e0 : wr.cell? ⟨g + 1, 0, none⟩ = some (.int .i64 11) := by rw [bB.cell]; rfl
      have e1 : wr.cell? ⟨g + 1, 1, none⟩ = some (.int .i64 a) := by rw [bB.cell]; rfl
      have e2 : wr.cell? ⟨g + 1, 2, none⟩ = some (.int .i64 b) := by rw [bB.cell]; rfl
      have e3 : wr.cell? ⟨g + 1, 3, none⟩ = some (.int .i64 c) := by rw [bB.cell]; rfl
      have e4 : wr.cell? ⟨g + 1, 4, none⟩ = some (.int .i64 n) := by rw [bB.cell]; rfl
      by_cases q0 : 1 ≤ n
      · by_cases q1 : n ≤ 64
        · go_wp2
          go_ret
          exact ⟨ret_b (Hins.out.2 ⟨⟨K.out.1, K.out.2.1, K.out.2.2⟩, by first | trivial | omega⟩).symm, X.out⟩
        · have q1d : decide (n ≤ 64) = false := by simpa using q1
          go_wp2
          go_ret
          refine ⟨ret_b ?_, X.out⟩
          cases hh : insOk p R ⟨11, a, b, c, n⟩
          · rfl
          · exfalso
            have hq := Hins.out.1 hh
            (simp [fok_iff] at hq) <;> omega
      · have q0d : decide (1 ≤ n) = false := by simpa using q0
        go_wp2
        go_ret
        refine ⟨ret_b ?_, X.out⟩
        cases hh : insOk p R ⟨11, a, b, c, n⟩
        · rfl
        · exfalso
          have hq := Hins.out.1 hh
          (simp [fok_iff] at hq) <;> omega
set_option maxRecDepth 100000 in
set_option maxHeartbeats 4000000 in
theorem rIns_12 (p : LProg) (vp : Value) (R : Int) (a b c n : Int) (fa : R64 a) (fb : R64 b) (fc : R64 c) (fn : R64 n) (fR : R64 R) (w : World) (hp : ProgAt w vp p) :
    Calls Tryd.prog 31 #[vp, .agg #[.int .i64 12, .int .i64 a, .int .i64 b, .int .i64 c, .int .i64 n], .int .i64 R] w fun e w' => e = .returned (.bool (insOk p R ⟨12, a, b, c, n⟩)) ∧ Ext w w' := by
  have HP := Lib.hid hp
  obtain ⟨v1, v2, rfl, ⟨hb, oa, cap, b0, o, rfl, hc1, hc2, hrow⟩, ⟨hf, ob, capb, b2, o2, rfl, hd1, hd2, hrow2⟩⟩ := hp
  have hlen := len_bd hc1 hc2
  have hlen2 := len_bd hd1 hd2
  have Hrow := Lib.hid hrow
  have hat := hrow.at_
  have r0 := fR.1; have r1 := fR.2
  have a0 := fa.1; have a1 := fa.2; have b00 := fb.1; have b01 := fb.2; have c0' := fc.1; have c1' := fc.2; have n0' := fn.1; have n1' := fn.2
  clear hc1 hc2 hd1 hd2 hrow hrow2 hb hf
  have Hgoal : ∀ r : Bool, Hid ((r = true ↔ insOk p R ⟨12, a, b, c, n⟩ = true) → insOk p R ⟨12, a, b, c, n⟩ = r) := fun r => Lib.hid fun h => by
    cases r <;> cases hh : insOk p R ⟨12, a, b, c, n⟩ <;> simp_all
  have Hins : Hid (insOk p R ⟨12, a, b, c, n⟩ = true ↔ (fok R 0 a = true ∧ fok R 0 b = true ∧ fok R 0 c = true ∧ n = 0) ∧ True) := Lib.hid (by
    simp only [fok_iff]
    unfold insOk; simp [okIn]
    try omega)
  go_enter Tryd.func31, Tryd.ntmps31
  go_wp2_with fail
  obtain ⟨W, g, hg, hW, hx, bA, bB⟩ := blocks2 w #[.slice oa p.regs.length cap, .slice ob p.code.length capb] #[.int .i64 12, .int .i64 a, .int .i64 b, .int .i64 c, .int .i64 n] 25 46
  rw [hW, hg]
  have X := Lib.hid hx
  clear hW hg hx
  have C := (shape_12 W)
  (with_reducible refine C.mono ?_)
  clear C
  rintro e w1 ⟨rfl, hw1⟩
  have bS : Blk w1 W.heap.size 3 #[.int .i64 0, .int .i64 0, .int .i64 0] := by rw [hw1]; exact Blk.new W _ _
  have h1 : Ext W w1 := by rw [hw1]; exact (Ext.refl W).alloc _
  clear hw1
  generalize W.heap.size = ks at *
  have bA := bA.ext h1
  have bB := bB.ext h1
  have X := Lib.hid (X.out.trans h1)
  clear h1
  have p0 : w1.cell? ⟨g, 0, none⟩ = some (.slice oa p.regs.length cap) := by rw [bA.cell]; rfl
  have p1 : w1.cell? ⟨g, 1, none⟩ = some (.slice ob p.code.length capb) := by rw [bA.cell]; rfl
  have e0 : w1.cell? ⟨g + 1, 0, none⟩ = some (.int .i64 12) := by rw [bB.cell]; rfl
  have e1 : w1.cell? ⟨g + 1, 1, none⟩ = some (.int .i64 a) := by rw [bB.cell]; rfl
  have e2 : w1.cell? ⟨g + 1, 2, none⟩ = some (.int .i64 b) := by rw [bB.cell]; rfl
  have e3 : w1.cell? ⟨g + 1, 3, none⟩ = some (.int .i64 c) := by rw [bB.cell]; rfl
  have e4 : w1.cell? ⟨g + 1, 4, none⟩ = some (.int .i64 n) := by rw [bB.cell]; rfl
  by_cases hn : n = 0
  rotate_left
  · have hn1 : (n != 0) = true := by simpa using hn
    go_wp2
    go_ret
    refine ⟨ret_b ?_, X.out⟩
    cases hh : insOk p R ⟨12, a, b, c, n⟩
    · rfl
    · exfalso
      have hq := Hins.out.1 hh
      (simp [fok_iff] at hq) <;> omega
  subst hn
  clear n0' n1'
  go_wp2_with fail
  obtain ⟨w2, hw2⟩ : ∃ w2, w2 = w1.alloc (.cells #[.int .i64 a, .int .i64 b, .int .i64 c] 3) := ⟨_, rfl⟩
  have bF : Blk w2 w1.heap.size 3 #[.int .i64 a, .int .i64 b, .int .i64 c] := by rw [hw2]; exact Blk.new w1 _ _
  have h2 : Ext w1 w2 := by rw [hw2]; exact (Ext.refl w1).alloc _
  rw [← hw2]
  clear hw2
  generalize w1.heap.size = kf at *
  have bA := bA.ext h2
  have bB := bB.ext h2
  have bS := bS.ext h2
  have X := Lib.hid (X.out.trans h2)
  clear h2 p0 p1 e0 e1 e2 e3 e4
  go_loopw [11] (fun i wr => ∃ j : Nat, j ≤ 3 ∧ i = .int .i64 j ∧ Ext w2 wr ∧ ∀ t, t < j → fok R (tri 0 0 0 t) (tri a b c t) = true) (fun i _ => 3 - (intOf i).toNat)
  case atStart => exact ⟨0, by omega, rfl, Ext.refl _, fun t ht => by omega⟩
  case round =>
    obtain ⟨j, hj, rfl, hE, hok⟩ := hrel
    have bA := bA.ext hE
    have bB := bB.ext hE
    have bS := bS.ext hE
    have bF := bF.ext hE
    have X := Lib.hid (X.out.trans hE)
    have HE := Lib.hid hE
    have Hok := Lib.hid hok
    clear hE hok
    by_cases hlt : j < 3
    · have hjj : j = 0 ∨ j = 1 ∨ j = 2 := by omega
      rcases hjj with rfl | rfl | rfl
      · have s0 : wr.cell? ⟨ks, 0, none⟩ = some (.int .i64 0) := by rw [bS.cell]; rfl
        have f0 : wr.cell? ⟨kf, 0, none⟩ = some (.int .i64 a) := by rw [bF.cell]; rfl
        by_cases hz : a = 0
        · have hz1 : (a != 0) = false := by simpa using hz
          go_wp2
          go_roundw
          case rel => exact ⟨1, by omega, by first | rfl | go_num, HE.out, fun t ht => by
            rcases (show t < 0 ∨ t = 0 by omega) with h | h
            · exact Hok.out t h
            · subst h; exact fok_iff.2 ⟨fun _ => hz, fun h => absurd h (by decide)⟩⟩
          case measure => simp [intOf]
        · have hz1 : (a != 0) = true := by simpa using hz
          go_wp2
          go_ret
          refine ⟨ret_b ?_, X.out⟩
          cases hh : insOk p R ⟨12, a, b, c, 0⟩
          · rfl
          · exfalso
            have hq := Hins.out.1 hh
            (simp [fok_iff] at hq) <;> omega
      · have s0 : wr.cell? ⟨ks, 1, none⟩ = some (.int .i64 0) := by rw [bS.cell]; rfl
        have f0 : wr.cell? ⟨kf, 1, none⟩ = some (.int .i64 b) := by rw [bF.cell]; rfl
        by_cases hz : b = 0
        · have hz1 : (b != 0) = false := by simpa using hz
          go_wp2
          go_roundw
          case rel => exact ⟨2, by omega, by first | rfl | go_num, HE.out, fun t ht => by
            rcases (show t < 1 ∨ t = 1 by omega) with h | h
            · exact Hok.out t h
            · subst h; exact fok_iff.2 ⟨fun _ => hz, fun h => absurd h (by decide)⟩⟩
          case measure => simp [intOf]
        · have hz1 : (b != 0) = true := by simpa using hz
          go_wp2
          go_ret
          refine ⟨ret_b ?_, X.out⟩
          cases hh : insOk p R ⟨12, a, b, c, 0⟩
          · rfl
          · exfalso
            have hq := Hins.out.1 hh
            (simp [fok_iff] at hq) <;> omega
      · have s0 : wr.cell? ⟨ks, 2, none⟩ = some (.int .i64 0) := by rw [bS.cell]; rfl
        have f0 : wr.cell? ⟨kf, 2, none⟩ = some (.int .i64 c) := by rw [bF.cell]; rfl
        by_cases hz : c = 0
        · have hz1 : (c != 0) = false := by simpa using hz
          go_wp2
          go_roundw
          case rel => exact ⟨3, by omega, by first | rfl | go_num, HE.out, fun t ht => by
            rcases (show t < 2 ∨ t = 2 by omega) with h | h
            · exact Hok.out t h
            · subst h; exact fok_iff.2 ⟨fun _ => hz, fun h => absurd h (by decide)⟩⟩
          case measure => simp [intOf]
        · have hz1 : (c != 0) = true := by simpa using hz
          go_wp2
          go_ret
          refine ⟨ret_b ?_, X.out⟩
          cases hh : insOk p R ⟨12, a, b, c, 0⟩
          · rfl
          · exfalso
            have hq := Hins.out.1 hh
            (simp [fok_iff] at hq) <;> omega
    · obtain rfl : j = 3 := by omega
      have k0 := Hok.out 0 (by omega)
      have k1 := Hok.out 1 (by omega)
      have k2 := Hok.out 2 (by omega)
      have K := Lib.hid (And.intro k0 (And.intro k1 k2))
      clear k0 k1 k2
      have p0 : wr.cell? ⟨g, 0, none⟩ = some (.slice oa p.regs.length cap) := by rw [bA.cell]; rfl
      have p1 : wr.cell? ⟨g, 1, none⟩ = some (.slice ob p.code.length capb) := by rw [bA.cell]; rfl
      have e0 : wr.cell? ⟨g + 1, 0, none⟩ = some (.int .i64 12) := by rw [bB.cell]; rfl
      have e1 : wr.cell? ⟨g + 1, 1, none⟩ = some (.int .i64 a) := by rw [bB.cell]; rfl
      have e2 : wr.cell? ⟨g + 1, 2, none⟩ = some (.int .i64 b) := by rw [bB.cell]; rfl
      have e3 : wr.cell? ⟨g + 1, 3, none⟩ = some (.int .i64 c) := by rw [bB.cell]; rfl
      have e4 : wr.cell? ⟨g + 1, 4, none⟩ = some (.int .i64 0) := by rw [bB.cell]; rfl
      go_wp2
      go_ret
      exact ⟨ret_b (Hins.out.2 ⟨⟨K.out.1, K.out.2.1, K.out.2.2, by trivial⟩, by first | trivial | omega⟩).symm, X.out⟩
set_option maxRecDepth 100000 in
set_option maxHeartbeats 4000000 in
theorem rIns_op (p : LProg) (vp : Value) (R : Int) (op : Int) (a b c n : Int) (fa : R64 a) (fb : R64 b) (fc : R64 c) (fn : R64 n) (fR : R64 R) (w : World) (hp : ProgAt w vp p) (fo : R64 op) (h20 : 20 < op) (h30 : op ≤ 30) (n1 : (op == 1) = false) (n2 : (op == 2) = false) (n3 : (op == 3) = false) (n4 : (op == 4) = false) (n5 : (op == 5) = false) (n6 : (op == 6) = false) (n7 : (op == 7) = false) (n8 : (op == 8) = false) (n9 : (op == 9) = false) (n10 : (op == 10) = false) (n11 : (op == 11) = false) (n12 : (op == 12) = false) :
    Calls Tryd.prog 31 #[vp, .agg #[.int .i64 op, .int .i64 a, .int .i64 b, .int .i64 c, .int .i64 n], .int .i64 R] w fun e w' => e = .returned (.bool (insOk p R ⟨op, a, b, c, n⟩)) ∧ Ext w w' := by
  have HP := Lib.hid hp
  obtain ⟨v1, v2, rfl, ⟨hb, oa, cap, b0, o, rfl, hc1, hc2, hrow⟩, ⟨hf, ob, capb, b2, o2, rfl, hd1, hd2, hrow2⟩⟩ := hp
  have hlen := len_bd hc1 hc2
  have hlen2 := len_bd hd1 hd2
  have Hrow := Lib.hid hrow
  have hat := hrow.at_
  have r0 := fR.1; have r1 := fR.2
  have a0 := fa.1; have a1 := fa.2; have b00 := fb.1; have b01 := fb.2; have c0' := fc.1; have c1' := fc.2; have n0' := fn.1; have n1' := fn.2
  clear hc1 hc2 hd1 hd2 hrow hrow2 hb hf
  have Hgoal : ∀ r : Bool, Hid ((r = true ↔ insOk p R ⟨op, a, b, c, n⟩ = true) → insOk p R ⟨op, a, b, c, n⟩ = r) := fun r => Lib.hid fun h => by
    cases r <;> cases hh : insOk p R ⟨op, a, b, c, n⟩ <;> simp_all
  have Hins : Hid (insOk p R ⟨op, a, b, c, n⟩ = true ↔ (fok R 1 a = true ∧ fok R 1 b = true ∧ fok R 1 c = true ∧ n = 0) ∧ (21 ≤ op ∧ op ≤ 30)) := Lib.hid (by
    simp only [fok_iff]
    have e : ∀ k : Int, (op == k) = false → ¬ op = k := fun k h => by simpa using h
    have m1 := e 1 n1; have m2 := e 2 n2; have m3 := e 3 n3; have m4 := e 4 n4; have m5 := e 5 n5; have m6 := e 6 n6; have m7 := e 7 n7; have m8 := e 8 n8; have m9 := e 9 n9; have m10 := e 10 n10; have m11 := e 11 n11; have m12 := e 12 n12
    unfold insOk; simp [m1, m2, m3, m4, m5, m6, m7, m8, m9, m10, m11, m12, okIn]
    try omega)
  go_enter Tryd.func31, Tryd.ntmps31
  go_wp2_with fail
  obtain ⟨W, g, hg, hW, hx, bA, bB⟩ := blocks2 w #[.slice oa p.regs.length cap, .slice ob p.code.length capb] #[.int .i64 op, .int .i64 a, .int .i64 b, .int .i64 c, .int .i64 n] 25 46
  rw [hW, hg]
  have X := Lib.hid hx
  clear hW hg hx
  have C := (shape_op op h20 h30 W)
  (with_reducible refine C.mono ?_)
  clear C
  rintro e w1 ⟨rfl, hw1⟩
  have bS : Blk w1 W.heap.size 3 #[.int .i64 1, .int .i64 1, .int .i64 1] := by rw [hw1]; exact Blk.new W _ _
  have h1 : Ext W w1 := by rw [hw1]; exact (Ext.refl W).alloc _
  clear hw1
  generalize W.heap.size = ks at *
  have bA := bA.ext h1
  have bB := bB.ext h1
  have X := Lib.hid (X.out.trans h1)
  clear h1
  have p0 : w1.cell? ⟨g, 0, none⟩ = some (.slice oa p.regs.length cap) := by rw [bA.cell]; rfl
  have p1 : w1.cell? ⟨g, 1, none⟩ = some (.slice ob p.code.length capb) := by rw [bA.cell]; rfl
  have e0 : w1.cell? ⟨g + 1, 0, none⟩ = some (.int .i64 op) := by rw [bB.cell]; rfl
  have e1 : w1.cell? ⟨g + 1, 1, none⟩ = some (.int .i64 a) := by rw [bB.cell]; rfl
  have e2 : w1.cell? ⟨g + 1, 2, none⟩ = some (.int .i64 b) := by rw [bB.cell]; rfl
  have e3 : w1.cell? ⟨g + 1, 3, none⟩ = some (.int .i64 c) := by rw [bB.cell]; rfl
  have e4 : w1.cell? ⟨g + 1, 4, none⟩ = some (.int .i64 n) := by rw [bB.cell]; rfl
  by_cases hn : n = 0
  rotate_left
  · have hn1 : (n != 0) = true := by simpa using hn
    go_wp2
    go_ret
    refine ⟨ret_b ?_, X.out⟩
    cases hh : insOk p R ⟨op, a, b, c, n⟩
    · rfl
    · exfalso
      have hq := Hins.out.1 hh
      (simp [fok_iff] at hq) <;> omega
  subst hn
  clear n0' n1'
  go_wp2_with fail
  obtain ⟨w2, hw2⟩ : ∃ w2, w2 = w1.alloc (.cells #[.int .i64 a, .int .i64 b, .int .i64 c] 3) := ⟨_, rfl⟩
  have bF : Blk w2 w1.heap.size 3 #[.int .i64 a, .int .i64 b, .int .i64 c] := by rw [hw2]; exact Blk.new w1 _ _
  have h2 : Ext w1 w2 := by rw [hw2]; exact (Ext.refl w1).alloc _
  rw [← hw2]
  clear hw2
  generalize w1.heap.size = kf at *
  have bA := bA.ext h2
  have bB := bB.ext h2
  have bS := bS.ext h2
  have X := Lib.hid (X.out.trans h2)
  clear h2 p0 p1 e0 e1 e2 e3 e4
  go_loopw [11] (fun i wr => ∃ j : Nat, j ≤ 3 ∧ i = .int .i64 j ∧ Ext w2 wr ∧ ∀ t, t < j → fok R (tri 1 1 1 t) (tri a b c t) = true) (fun i _ => 3 - (intOf i).toNat)
  case atStart => exact ⟨0, by omega, rfl, Ext.refl _, fun t ht => by omega⟩
  case round =>
    obtain ⟨j, hj, rfl, hE, hok⟩ := hrel
    have bA := bA.ext hE
    have bB := bB.ext hE
    have bS := bS.ext hE
    have bF := bF.ext hE
    have X := Lib.hid (X.out.trans hE)
    have HE := Lib.hid hE
    have Hok := Lib.hid hok
    clear hE hok
    by_cases hlt : j < 3
    · have hjj : j = 0 ∨ j = 1 ∨ j = 2 := by omega
      rcases hjj with rfl | rfl | rfl
      · have s0 : wr.cell? ⟨ks, 0, none⟩ = some (.int .i64 1) := by rw [bS.cell]; rfl
        have f0 : wr.cell? ⟨kf, 0, none⟩ = some (.int .i64 a) := by rw [bF.cell]; rfl
        by_cases hz : 0 ≤ a
        · by_cases hy : a < R
          · go_wp2
            go_roundw
            case rel => exact ⟨1, by omega, by first | rfl | go_num, HE.out, fun t ht => by
              rcases (show t < 0 ∨ t = 0 by omega) with h | h
              · exact Hok.out t h
              · subst h; exact fok_iff.2 ⟨fun h => absurd h (by decide), fun _ => ⟨hz, hy⟩⟩⟩
            case measure => simp [intOf]
          · go_wp2
            go_ret
            refine ⟨ret_b ?_, X.out⟩
            cases hh : insOk p R ⟨op, a, b, c, 0⟩
            · rfl
            · exfalso
              have hq := Hins.out.1 hh
              (simp [fok_iff] at hq) <;> omega
        · go_wp2
          go_ret
          refine ⟨ret_b ?_, X.out⟩
          cases hh : insOk p R ⟨op, a, b, c, 0⟩
          · rfl
          · exfalso
            have hq := Hins.out.1 hh
            (simp [fok_iff] at hq) <;> omega
      · have s0 : wr.cell? ⟨ks, 1, none⟩ = some (.int .i64 1) := by rw [bS.cell]; rfl
        have f0 : wr.cell? ⟨kf, 1, none⟩ = some (.int .i64 b) := by rw [bF.cell]; rfl
        by_cases hz : 0 ≤ b
        · by_cases hy : b < R
          · go_wp2
            go_roundw
            case rel => exact ⟨2, by omega, by first | rfl | go_num, HE.out, fun t ht => by
              rcases (show t < 1 ∨ t = 1 by omega) with h | h
              · exact Hok.out t h
              · subst h; exact fok_iff.2 ⟨fun h => absurd h (by decide), fun _ => ⟨hz, hy⟩⟩⟩
            case measure => simp [intOf]
          · go_wp2
            go_ret
            refine ⟨ret_b ?_, X.out⟩
            cases hh : insOk p R ⟨op, a, b, c, 0⟩
            · rfl
            · exfalso
              have hq := Hins.out.1 hh
              (simp [fok_iff] at hq) <;> omega
        · go_wp2
          go_ret
          refine ⟨ret_b ?_, X.out⟩
          cases hh : insOk p R ⟨op, a, b, c, 0⟩
          · rfl
          · exfalso
            have hq := Hins.out.1 hh
            (simp [fok_iff] at hq) <;> omega
      · have s0 : wr.cell? ⟨ks, 2, none⟩ = some (.int .i64 1) := by rw [bS.cell]; rfl
        have f0 : wr.cell? ⟨kf, 2, none⟩ = some (.int .i64 c) := by rw [bF.cell]; rfl
        by_cases hz : 0 ≤ c
        · by_cases hy : c < R
          · go_wp2
            go_roundw
            case rel => exact ⟨3, by omega, by first | rfl | go_num, HE.out, fun t ht => by
              rcases (show t < 2 ∨ t = 2 by omega) with h | h
              · exact Hok.out t h
              · subst h; exact fok_iff.2 ⟨fun h => absurd h (by decide), fun _ => ⟨hz, hy⟩⟩⟩
            case measure => simp [intOf]
          · go_wp2
            go_ret
            refine ⟨ret_b ?_, X.out⟩
            cases hh : insOk p R ⟨op, a, b, c, 0⟩
            · rfl
            · exfalso
              have hq := Hins.out.1 hh
              (simp [fok_iff] at hq) <;> omega
        · go_wp2
          go_ret
          refine ⟨ret_b ?_, X.out⟩
          cases hh : insOk p R ⟨op, a, b, c, 0⟩
          · rfl
          · exfalso
            have hq := Hins.out.1 hh
            (simp [fok_iff] at hq) <;> omega
    · obtain rfl : j = 3 := by omega
      have k0 := Hok.out 0 (by omega)
      have k1 := Hok.out 1 (by omega)
      have k2 := Hok.out 2 (by omega)
      have K := Lib.hid (And.intro k0 (And.intro k1 k2))
      clear k0 k1 k2
      have p0 : wr.cell? ⟨g, 0, none⟩ = some (.slice oa p.regs.length cap) := by rw [bA.cell]; rfl
      have p1 : wr.cell? ⟨g, 1, none⟩ = some (.slice ob p.code.length capb) := by rw [bA.cell]; rfl
      have e0 : wr.cell? ⟨g + 1, 0, none⟩ = some (.int .i64 op) := by rw [bB.cell]; rfl
      have e1 : wr.cell? ⟨g + 1, 1, none⟩ = some (.int .i64 a) := by rw [bB.cell]; rfl
      have e2 : wr.cell? ⟨g + 1, 2, none⟩ = some (.int .i64 b) := by rw [bB.cell]; rfl
      have e3 : wr.cell? ⟨g + 1, 3, none⟩ = some (.int .i64 c) := by rw [bB.cell]; rfl
      have e4 : wr.cell? ⟨g + 1, 4, none⟩ = some (.int .i64 0) := by rw [bB.cell]; rfl
      go_wp2
      go_ret
      exact ⟨ret_b (Hins.out.2 ⟨⟨K.out.1, K.out.2.1, K.out.2.2, by trivial⟩, by first | trivial | omega⟩).symm, X.out⟩
end Go.Proofs.YtkkekbnhndfhjaaDoor
