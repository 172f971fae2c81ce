/- Laid together from: FormR3, FormR4, FormR5. -/
import Derived.Test.YtkkekbnhndfhjaaDoorTextParsesB20

namespace Go.Proofs.YtkkekbnhndfhjaaDoor
open Go.ChangeShapes Go.WideShapes Go.ChangeAt Go.RowKit
set_option linter.unusedVariables false
set_option linter.unusedSimpArgs false
set_option maxRecDepth 100000 in
set_option maxHeartbeats 4000000 in
theorem rIns_1 (p : LProg) (vp : Value) (R : Int) (a b c n : Int) (fa : R64 a) (fb : R64 b) (fc : R64 c) (fn : R64 n) (fR : R64 R) (w : World) (hp : ProgAt w vp p) :
    Calls Tryd.prog 31 #[vp, .agg #[.int .i64 1, .int .i64 a, .int .i64 b, .int .i64 c, .int .i64 n], .int .i64 R] w fun e w' => e = .returned (.bool (insOk p R ⟨1, a, b, c, n⟩)) ∧ Ext w w' := by
  have HP := Lib.hid hp
  obtain ⟨v1, v2, rfl, ⟨hb, oa, cap, b0, o, rfl, hc1, hc2, hrow⟩, ⟨hf, ob, capb, b2, o2, rfl, hd1, hd2, hrow2⟩⟩ := hp
  have hlen := len_bd hc1 hc2
  have hlen2 := len_bd hd1 hd2
  have Hrow := Lib.hid hrow
  have hat := hrow.at_
  have r0 := fR.1; have r1 := fR.2
  have a0 := fa.1; have a1 := fa.2; have b00 := fb.1; have b01 := fb.2; have c0' := fc.1; have c1' := fc.2; have n0' := fn.1; have n1' := fn.2
  clear hc1 hc2 hd1 hd2 hrow hrow2 hb hf
  have Hgoal : ∀ r : Bool, Hid ((r = true ↔ insOk p R ⟨1, a, b, c, n⟩ = true) → insOk p R ⟨1, a, b, c, n⟩ = r) := fun r => Lib.hid fun h => by
    cases r <;> cases hh : insOk p R ⟨1, a, b, c, n⟩ <;> simp_all
  have Hins : Hid (insOk p R ⟨1, a, b, c, n⟩ = true ↔ (fok R 1 a = true ∧ fok R 0 b = true ∧ fok R 0 c = true) ∧ True) := Lib.hid (by
    simp only [fok_iff]
    unfold insOk; simp [okIn]
    try omega)
  go_enter Tryd.func31, Tryd.ntmps31
  go_wp2_with fail
  obtain ⟨W, g, hg, hW, hx, bA, bB⟩ := blocks2 w #[.slice oa p.regs.length cap, .slice ob p.code.length capb] #[.int .i64 1, .int .i64 a, .int .i64 b, .int .i64 c, .int .i64 n] 25 46
  rw [hW, hg]
  have X := Lib.hid hx
  clear hW hg hx
  have C := (shape_1 W)
  (with_reducible refine C.mono ?_)
  clear C
  rintro e w1 ⟨rfl, hw1⟩
  have bS : Blk w1 W.heap.size 3 #[.int .i64 1, .int .i64 0, .int .i64 0] := by rw [hw1]; exact Blk.new W _ _
  have h1 : Ext W w1 := by rw [hw1]; exact (Ext.refl W).alloc _
  clear hw1
  generalize W.heap.size = ks at *
  have bA := bA.ext h1
  have bB := bB.ext h1
  have X := Lib.hid (X.out.trans h1)
  clear h1
  have p0 : w1.cell? ⟨g, 0, none⟩ = some (.slice oa p.regs.length cap) := by rw [bA.cell]; rfl
  have p1 : w1.cell? ⟨g, 1, none⟩ = some (.slice ob p.code.length capb) := by rw [bA.cell]; rfl
  have e0 : w1.cell? ⟨g + 1, 0, none⟩ = some (.int .i64 1) := by rw [bB.cell]; rfl
  have e1 : w1.cell? ⟨g + 1, 1, none⟩ = some (.int .i64 a) := by rw [bB.cell]; rfl
  have e2 : w1.cell? ⟨g + 1, 2, none⟩ = some (.int .i64 b) := by rw [bB.cell]; rfl
  have e3 : w1.cell? ⟨g + 1, 3, none⟩ = some (.int .i64 c) := by rw [bB.cell]; rfl
  have e4 : w1.cell? ⟨g + 1, 4, none⟩ = some (.int .i64 n) := by rw [bB.cell]; rfl
  go_wp2_with fail
  obtain ⟨w2, hw2⟩ : ∃ w2, w2 = w1.alloc (.cells #[.int .i64 a, .int .i64 b, .int .i64 c] 3) := ⟨_, rfl⟩
  have bF : Blk w2 w1.heap.size 3 #[.int .i64 a, .int .i64 b, .int .i64 c] := by rw [hw2]; exact Blk.new w1 _ _
  have h2 : Ext w1 w2 := by rw [hw2]; exact (Ext.refl w1).alloc _
  rw [← hw2]
  clear hw2
  generalize w1.heap.size = kf at *
  have bA := bA.ext h2
  have bB := bB.ext h2
  have bS := bS.ext h2
  have X := Lib.hid (X.out.trans h2)
  clear h2 p0 p1 e0 e1 e2 e3 e4
  go_loopw [11] (fun i wr => ∃ j : Nat, j ≤ 3 ∧ i = .int .i64 j ∧ Ext w2 wr ∧ ∀ t, t < j → fok R (tri 1 0 0 t) (tri a b c t) = true) (fun i _ => 3 - (intOf i).toNat)
  case atStart => exact ⟨0, by omega, rfl, Ext.refl _, fun t ht => by omega⟩
  case round =>
    obtain ⟨j, hj, rfl, hE, hok⟩ := hrel
    have bA := bA.ext hE
    have bB := bB.ext hE
    have bS := bS.ext hE
    have bF := bF.ext hE
    have X := Lib.hid (X.out.trans hE)
    have HE := Lib.hid hE
    have Hok := Lib.hid hok
    clear hE hok
    by_cases hlt : j < 3
    · have hjj : j = 0 ∨ j = 1 ∨ j = 2 := by omega
      rcases hjj with rfl | rfl | rfl
      · have s0 : wr.cell? ⟨ks, 0, none⟩ = some (.int .i64 1) := by rw [bS.cell]; rfl
        have f0 : wr.cell? ⟨kf, 0, none⟩ = some (.int .i64 a) := by rw [bF.cell]; rfl
        by_cases hz : 0 ≤ a
        · by_cases hy : a < R
          · go_wp2
            go_roundw
            case rel => exact ⟨1, by omega, by first | rfl | go_num, HE.out, fun t ht => by
              rcases (show t < 0 ∨ t = 0 by omega) with h | h
              · exact Hok.out t h
              · subst h; exact fok_iff.2 ⟨fun h => absurd h (by decide), fun _ => ⟨hz, hy⟩⟩⟩
            case measure => simp [intOf]
          · go_wp2
            go_ret
            refine ⟨ret_b ?_, X.out⟩
            cases hh : insOk p R ⟨1, a, b, c, n⟩
            · rfl
            · exfalso
              have hq := Hins.out.1 hh
              (simp [fok_iff] at hq) <;> omega
        · go_wp2
          go_ret
          refine ⟨ret_b ?_, X.out⟩
          cases hh : insOk p R ⟨1, a, b, c, n⟩
          · rfl
          · exfalso
            have hq := Hins.out.1 hh
            (simp [fok_iff] at hq) <;> omega
      · have s0 : wr.cell? ⟨ks, 1, none⟩ = some (.int .i64 0) := by rw [bS.cell]; rfl
        have f0 : wr.cell? ⟨kf, 1, none⟩ = some (.int .i64 b) := by rw [bF.cell]; rfl
        by_cases hz : b = 0
        · have hz1 : (b != 0) = false := by simpa using hz
          go_wp2
          go_roundw
          case rel => exact ⟨2, by omega, by first | rfl | go_num, HE.out, fun t ht => by
            rcases (show t < 1 ∨ t = 1 by omega) with h | h
            · exact Hok.out t h
            · subst h; exact fok_iff.2 ⟨fun _ => hz, fun h => absurd h (by decide)⟩⟩
          case measure => simp [intOf]
        · have hz1 : (b != 0) = true := by simpa using hz
          go_wp2
          go_ret
          refine ⟨ret_b ?_, X.out⟩
          cases hh : insOk p R ⟨1, a, b, c, n⟩
          · rfl
          · exfalso
            have hq := Hins.out.1 hh
            (simp [fok_iff] at hq) <;> omega
      · have s0 : wr.cell? ⟨ks, 2, none⟩ = some (.int .i64 0) := by rw [bS.cell]; rfl
        have f0 : wr.cell? ⟨kf, 2, none⟩ = some (.int .i64 c) := by rw [bF.cell]; rfl
        by_cases hz : c = 0
        · have hz1 : (c != 0) = false := by simpa using hz
          go_wp2
          go_roundw
          case rel => exact ⟨3, by omega, by first | rfl | go_num, HE.out, fun t ht => by
            rcases (show t < 2 ∨ t = 2 by omega) with h | h
            · exact Hok.out t h
            · subst h; exact fok_iff.2 ⟨fun _ => hz, fun h => absurd h (by decide)⟩⟩
          case measure => simp [intOf]
        · have hz1 : (c != 0) = true := by simpa using hz
          go_wp2
          go_ret
          refine ⟨ret_b ?_, X.out⟩
          cases hh : insOk p R ⟨1, a, b, c, n⟩
          · rfl
          · exfalso
            have hq := Hins.out.1 hh
            (simp [fok_iff] at hq) <;> omega
    · obtain rfl : j = 3 := by omega
      have k0 := Hok.out 0 (by omega)
      have k1 := Hok.out 1 (by omega)
      have k2 := Hok.out 2 (by omega)
      have K := Lib.hid (And.intro k0 (And.intro k1 k2))
      clear k0 k1 k2
      have p0 : wr.cell? ⟨g, 0, none⟩ = some (.slice oa p.regs.length cap) := by rw [bA.cell]; rfl
      have p1 : wr.cell? ⟨g, 1, none⟩ = some (.slice ob p.code.length capb) := by rw [bA.cell]; rfl
      have e0 : wr.cell? ⟨g + 1, 0, none⟩ = some (.int .i64 1) := by rw [bB.cell]; rfl
      have e1 : wr.cell? ⟨g + 1, 1, none⟩ = some (.int .i64 a) := by rw [bB.cell]; rfl
      have e2 : wr.cell? ⟨g + 1, 2, none⟩ = some (.int .i64 b) := by rw [bB.cell]; rfl
      have e3 : wr.cell? ⟨g + 1, 3, none⟩ = some (.int .i64 c) := by rw [bB.cell]; rfl
      have e4 : wr.cell? ⟨g + 1, 4, none⟩ = some (.int .i64 n) := by rw [bB.cell]; rfl
      go_wp2
      go_ret
      exact ⟨ret_b (Hins.out.2 ⟨⟨K.out.1, K.out.2.1, K.out.2.2⟩, by first | trivial | omega⟩).symm, X.out⟩
set_option maxRecDepth 100000 in
set_option maxHeartbeats 4000000 in
theorem rIns_2 (p : LProg) (vp : Value) (R : Int) (a b c n : Int) (fa : R64 a) (fb : R64 b) (fc : R64 c) (fn : R64 n) (fR : R64 R) (w : World) (hp : ProgAt w vp p) :
    Calls Tryd.prog 31 #[vp, .agg #[.int .i64 2, .int .i64 a, .int .i64 b, .int .i64 c, .int .i64 n], .int .i64 R] w fun e w' => e = .returned (.bool (insOk p R ⟨2, a, b, c, n⟩)) ∧ Ext w w' := by
  have HP := Lib.hid hp
  obtain ⟨v1, v2, rfl, ⟨hb, oa, cap, b0, o, rfl, hc1, hc2, hrow⟩, ⟨hf, ob, capb, b2, o2, rfl, hd1, hd2, hrow2⟩⟩ := hp
  have hlen := len_bd hc1 hc2
  have hlen2 := len_bd hd1 hd2
  have Hrow := Lib.hid hrow
  have hat := hrow.at_
  have r0 := fR.1; have r1 := fR.2
  have a0 := fa.1; have a1 := fa.2; have b00 := fb.1; have b01 := fb.2; have c0' := fc.1; have c1' := fc.2; have n0' := fn.1; have n1' := fn.2
  clear hc1 hc2 hd1 hd2 hrow hrow2 hb hf
  have Hgoal : ∀ r : Bool, Hid ((r = true ↔ insOk p R ⟨2, a, b, c, n⟩ = true) → insOk p R ⟨2, a, b, c, n⟩ = r) := fun r => Lib.hid fun h => by
    cases r <;> cases hh : insOk p R ⟨2, a, b, c, n⟩ <;> simp_all
  have Hins : Hid (insOk p R ⟨2, a, b, c, n⟩ = true ↔ (fok R 1 a = true ∧ fok R 1 b = true ∧ fok R 0 c = true ∧ n = 0) ∧ True) := Lib.hid (by
    simp only [fok_iff]
    unfold insOk; simp [okIn]
    try omega)
  go_enter Tryd.func31, Tryd.ntmps31
  go_wp2_with fail
  obtain ⟨W, g, hg, hW, hx, bA, bB⟩ := blocks2 w #[.slice oa p.regs.length cap, .slice ob p.code.length capb] #[.int .i64 2, .int .i64 a, .int .i64 b, .int .i64 c, .int .i64 n] 25 46
  rw [hW, hg]
  have X := Lib.hid hx
  clear hW hg hx
  have C := (shape_2 W)
  (with_reducible refine C.mono ?_)
  clear C
  rintro e w1 ⟨rfl, hw1⟩
  have bS : Blk w1 W.heap.size 3 #[.int .i64 1, .int .i64 1, .int .i64 0] := by rw [hw1]; exact Blk.new W _ _
  have h1 : Ext W w1 := by rw [hw1]; exact (Ext.refl W).alloc _
  clear hw1
  generalize W.heap.size = ks at *
  have bA := bA.ext h1
  have bB := bB.ext h1
  have X := Lib.hid (X.out.trans h1)
  clear h1
  have p0 : w1.cell? ⟨g, 0, none⟩ = some (.slice oa p.regs.length cap) := by rw [bA.cell]; rfl
  have p1 : w1.cell? ⟨g, 1, none⟩ = some (.slice ob p.code.length capb) := by rw [bA.cell]; rfl
  have e0 : w1.cell? ⟨g + 1, 0, none⟩ = some (.int .i64 2) := by rw [bB.cell]; rfl
  have e1 : w1.cell? ⟨g + 1, 1, none⟩ = some (.int .i64 a) := by rw [bB.cell]; rfl
  have e2 : w1.cell? ⟨g + 1, 2, none⟩ = some (.int .i64 b) := by rw [bB.cell]; rfl
  have e3 : w1.cell? ⟨g + 1, 3, none⟩ = some (.int .i64 c) := by rw [bB.cell]; rfl
  have e4 : w1.cell? ⟨g + 1, 4, none⟩ = some (.int .i64 n) := by rw [bB.cell]; rfl
  by_cases hn : n = 0
  rotate_left
  · have hn1 : (n != 0) = true := by simpa using hn
    go_wp2
    go_ret
    refine ⟨ret_b ?_, X.out⟩
    cases hh : insOk p R ⟨2, a, b, c, n⟩
    · rfl
    · exfalso
      have hq := Hins.out.1 hh
      (simp [fok_iff] at hq) <;> omega
  subst hn
  clear n0' n1'
  go_wp2_with fail
  obtain ⟨w2, hw2⟩ : ∃ w2, w2 = w1.alloc (.cells #[.int .i64 a, .int .i64 b, .int .i64 c] 3) := ⟨_, rfl⟩
  have bF : Blk w2 w1.heap.size 3 #[.int .i64 a, .int .i64 b, .int .i64 c] := by rw [hw2]; exact Blk.new w1 _ _
  have h2 : Ext w1 w2 := by rw [hw2]; exact (Ext.refl w1).alloc _
  rw [← hw2]
  clear hw2
  generalize w1.heap.size = kf at *
  have bA := bA.ext h2
  have bB := bB.ext h2
  have bS := bS.ext h2
  have X := Lib.hid (X.out.trans h2)
  clear h2 p0 p1 e0 e1 e2 e3 e4
  go_loopw [11] (fun i wr => ∃ j : Nat, j ≤ 3 ∧ i = .int .i64 j ∧ Ext w2 wr ∧ ∀ t, t < j → fok R (tri 1 1 0 t) (tri a b c t) = true) (fun i _ => 3 - (intOf i).toNat)
  case atStart => exact ⟨0, by omega, rfl, Ext.refl _, fun t ht => by omega⟩
  case round =>
    obtain ⟨j, hj, rfl, hE, hok⟩ := hrel
    have bA := bA.ext hE
    have bB := bB.ext hE
    have bS := bS.ext hE
    have bF := bF.ext hE
    have X := Lib.hid (X.out.trans hE)
    have HE := Lib.hid hE
    have Hok := Lib.hid hok
    clear hE hok
    by_cases hlt : j < 3
    · have hjj : j = 0 ∨ j = 1 ∨ j = 2 := by omega
      rcases hjj with rfl | rfl | rfl
      · have s0 : wr.cell? ⟨ks, 0, none⟩ = some (.int .i64 1) := by rw [bS.cell]; rfl
        have f0 : wr.cell? ⟨kf, 0, none⟩ = some (.int .i64 a) := by rw [bF.cell]; rfl
        by_cases hz : 0 ≤ a
        · by_cases hy : a < R
          · go_wp2
            go_roundw
            case rel => exact ⟨1, by omega, by first | rfl | go_num, HE.out, fun t ht => by
              rcases (show t < 0 ∨ t = 0 by omega) with h | h
              · exact Hok.out t h
              · subst h; exact fok_iff.2 ⟨fun h => absurd h (by decide), fun _ => ⟨hz, hy⟩⟩⟩
            case measure => simp [intOf]
          · go_wp2
            go_ret
            refine ⟨ret_b ?_, X.out⟩
            cases hh : insOk p R ⟨2, a, b, c, 0⟩
            · rfl
            · exfalso
              have hq := Hins.out.1 hh
              (simp [fok_iff] at hq) <;> omega
        · go_wp2
          go_ret
          refine ⟨ret_b ?_, X.out⟩
          cases hh : insOk p R ⟨2, a, b, c, 0⟩
          · rfl
          · exfalso
            have hq := Hins.out.1 hh
            (simp [fok_iff] at hq) <;> omega
      · have s0 : wr.cell? ⟨ks, 1, none⟩ = some (.int .i64 1) := by rw [bS.cell]; rfl
        have f0 : wr.cell? ⟨kf, 1, none⟩ = some (.int .i64 b) := by rw [bF.cell]; rfl
        by_cases hz : 0 ≤ b
        · by_cases hy : b < R
          · go_wp2
            go_roundw
            case rel => exact ⟨2, by omega, by first | rfl | go_num, HE.out, fun t ht => by
              rcases (show t < 1 ∨ t = 1 by omega) with h | h
              · exact Hok.out t h
              · subst h; exact fok_iff.2 ⟨fun h => absurd h (by decide), fun _ => ⟨hz, hy⟩⟩⟩
            case measure => simp [intOf]
          · go_wp2
            go_ret
            refine ⟨ret_b ?_, X.out⟩
            cases hh : insOk p R ⟨2, a, b, c, 0⟩
            · rfl
            · exfalso
              have hq := Hins.out.1 hh
              (simp [fok_iff] at hq) <;> omega
        · go_wp2
          go_ret
          refine ⟨ret_b ?_, X.out⟩
          cases hh : insOk p R ⟨2, a, b, c, 0⟩
          · rfl
          · exfalso
            have hq := Hins.out.1 hh
            (simp [fok_iff] at hq) <;> omega
      · have s0 : wr.cell? ⟨ks, 2, none⟩ = some (.int .i64 0) := by rw [bS.cell]; rfl
        have f0 : wr.cell? ⟨kf, 2, none⟩ = some (.int .i64 c) := by rw [bF.cell]; rfl
        by_cases hz : c = 0
        · have hz1 : (c != 0) = false := by simpa using hz
          go_wp2
          go_roundw
          case rel => exact ⟨3, by omega, by first | rfl | go_num, HE.out, fun t ht => by
            rcases (show t < 2 ∨ t = 2 by omega) with h | h
            · exact Hok.out t h
            · subst h; exact fok_iff.2 ⟨fun _ => hz, fun h => absurd h (by decide)⟩⟩
          case measure => simp [intOf]
        · have hz1 : (c != 0) = true := by simpa using hz
          go_wp2
          go_ret
          refine ⟨ret_b ?_, X.out⟩
          cases hh : insOk p R ⟨2, a, b, c, 0⟩
          · rfl
          · exfalso
            have hq := Hins.out.1 hh
            (simp [fok_iff] at hq) <;> omega
    · obtain rfl : j = 3 := by omega
      have k0 := Hok.out 0 (by omega)
      have k1 := Hok.out 1 (by omega)
      have k2 := Hok.out 2 (by omega)
      have K := Lib.hid (And.intro k0 (And.intro k1 k2))
      clear k0 k1 k2
      have p0 : wr.cell? ⟨g, 0, none⟩ = some (.slice oa p.regs.length cap) := by rw [bA.cell]; rfl
      have p1 : wr.cell? ⟨g, 1, none⟩ = some (.slice ob p.code.length capb) := by rw [bA.cell]; rfl
      have e0 : wr.cell? ⟨g + 1, 0, none⟩ = some (.int .i64 2) := by rw [bB.cell]; rfl
      have e1 : wr.cell? ⟨g + 1, 1, none⟩ = some (.int .i64 a) := by rw [bB.cell]; rfl
      have e2 : wr.cell? ⟨g + 1, 2, none⟩ = some (.int .i64 b) := by rw [bB.cell]; rfl
      have e3 : wr.cell? ⟨g + 1, 3, none⟩ = some (.int .i64 c) := by rw [bB.cell]; rfl
      have e4 : wr.cell? ⟨g + 1, 4, none⟩ = some (.int .i64 0) := by rw [bB.cell]; rfl
      go_wp2
      go_ret
      exact ⟨ret_b (Hins.out.2 ⟨⟨K.out.1, K.out.2.1, K.out.2.2, by trivial⟩, by first | trivial | omega⟩).symm, X.out⟩
set_option maxRecDepth 100000 in
set_option maxHeartbeats 4000000 in
theorem rIns_3 (p : LProg) (vp : Value) (R : Int) (a b c n : Int) (fa : R64 a) (fb : R64 b) (fc : R64 c) (fn : R64 n) (fR : R64 R) (w : World) (hp : ProgAt w vp p) :
    Calls Tryd.prog 31 #[vp, .agg #[.int .i64 3, .int .i64 a, .int .i64 b, .int .i64 c, .int .i64 n], .int .i64 R] w fun e w' => e = .returned (.bool (insOk p R ⟨3, a, b, c, n⟩)) ∧ Ext w w' := by
  have HP := Lib.hid hp
  obtain ⟨v1, v2, rfl, ⟨hb, oa, cap, b0, o, rfl, hc1, hc2, hrow⟩, ⟨hf, ob, capb, b2, o2, rfl, hd1, hd2, hrow2⟩⟩ := hp
  have hlen := len_bd hc1 hc2
  have hlen2 := len_bd hd1 hd2
  have Hrow := Lib.hid hrow
  have hat := hrow.at_
  have r0 := fR.1; have r1 := fR.2
  have a0 := fa.1; have a1 := fa.2; have b00 := fb.1; have b01 := fb.2; have c0' := fc.1; have c1' := fc.2; have n0' := fn.1; have n1' := fn.2
  clear hc1 hc2 hd1 hd2 hrow hrow2 hb hf
  have Hgoal : ∀ r : Bool, Hid ((r = true ↔ insOk p R ⟨3, a, b, c, n⟩ = true) → insOk p R ⟨3, a, b, c, n⟩ = r) := fun r => Lib.hid fun h => by
    cases r <;> cases hh : insOk p R ⟨3, a, b, c, n⟩ <;> simp_all
  have Hins : Hid (insOk p R ⟨3, a, b, c, n⟩ = true ↔ (fok R 1 a = true ∧ fok R 1 b = true ∧ fok R 2 c = true) ∧ (0 ≤ c ∧ c < (p.regs.length : Int))) := Lib.hid (by
    simp only [fok_iff]
    unfold insOk; simp [okIn]
    try omega)
  go_enter Tryd.func31, Tryd.ntmps31
  go_wp2_with fail
  obtain ⟨W, g, hg, hW, hx, bA, bB⟩ := blocks2 w #[.slice oa p.regs.length cap, .slice ob p.code.length capb] #[.int .i64 3, .int .i64 a, .int .i64 b, .int .i64 c, .int .i64 n] 25 46
  rw [hW, hg]
  have X := Lib.hid hx
  clear hW hg hx
  have C := (shape_3 W)
  (with_reducible refine C.mono ?_)
  clear C
  rintro e w1 ⟨rfl, hw1⟩
  have bS : Blk w1 W.heap.size 3 #[.int .i64 1, .int .i64 1, .int .i64 2] := by rw [hw1]; exact Blk.new W _ _
  have h1 : Ext W w1 := by rw [hw1]; exact (Ext.refl W).alloc _
  clear hw1
  generalize W.heap.size = ks at *
  have bA := bA.ext h1
  have bB := bB.ext h1
  have X := Lib.hid (X.out.trans h1)
  clear h1
  have p0 : w1.cell? ⟨g, 0, none⟩ = some (.slice oa p.regs.length cap) := by rw [bA.cell]; rfl
  have p1 : w1.cell? ⟨g, 1, none⟩ = some (.slice ob p.code.length capb) := by rw [bA.cell]; rfl
  have e0 : w1.cell? ⟨g + 1, 0, none⟩ = some (.int .i64 3) := by rw [bB.cell]; rfl
  have e1 : w1.cell? ⟨g + 1, 1, none⟩ = some (.int .i64 a) := by rw [bB.cell]; rfl
  have e2 : w1.cell? ⟨g + 1, 2, none⟩ = some (.int .i64 b) := by rw [bB.cell]; rfl
  have e3 : w1.cell? ⟨g + 1, 3, none⟩ = some (.int .i64 c) := by rw [bB.cell]; rfl
  have e4 : w1.cell? ⟨g + 1, 4, none⟩ = some (.int .i64 n) := by rw [bB.cell]; rfl
  go_wp2_with fail
  obtain ⟨w2, hw2⟩ : ∃ w2, w2 = w1.alloc (.cells #[.int .i64 a, .int .i64 b, .int .i64 c] 3) := ⟨_, rfl⟩
  have bF : Blk w2 w1.heap.size 3 #[.int .i64 a, .int .i64 b, .int .i64 c] := by rw [hw2]; exact Blk.new w1 _ _
  have h2 : Ext w1 w2 := by rw [hw2]; exact (Ext.refl w1).alloc _
  rw [← hw2]
  clear hw2
  generalize w1.heap.size = kf at *
  have bA := bA.ext h2
  have bB := bB.ext h2
  have bS := bS.ext h2
  have X := Lib.hid (X.out.trans h2)
  clear h2 p0 p1 e0 e1 e2 e3 e4
  go_loopw [11] (fun i wr => ∃ j : Nat, j ≤ 3 ∧ i = .int .i64 j ∧ Ext w2 wr ∧ ∀ t, t < j → fok R (tri 1 1 2 t) (tri a b c t) = true) (fun i _ => 3 - (intOf i).toNat)
  case atStart => exact ⟨0, by omega, rfl, Ext.refl _, fun t ht => by omega⟩
  case round =>
    obtain ⟨j, hj, rfl, hE, hok⟩ := hrel
    have bA := bA.ext hE
    have bB := bB.ext hE
    have bS := bS.ext hE
    have bF := bF.ext hE
    have X := Lib.hid (X.out.trans hE)
    have HE := Lib.hid hE
    have Hok := Lib.hid hok
    clear hE hok
    by_cases hlt : j < 3
    · have hjj : j = 0 ∨ j = 1 ∨ j = 2 := by omega
      rcases hjj with rfl | rfl | rfl
      · have s0 : wr.cell? ⟨ks, 0, none⟩ = some (.int .i64 1) := by rw [bS.cell]; rfl
        have f0 : wr.cell? ⟨kf, 0, none⟩ = some (.int .i64 a) := by rw [bF.cell]; rfl
        by_cases hz : 0 ≤ a
        · by_cases hy : a < R
          · go_wp2
            go_roundw
            case rel => exact ⟨1, by omega, by first | rfl | go_num, HE.out, fun t ht => by
              rcases (show t < 0 ∨ t = 0 by omega) with h | h
              · exact Hok.out t h
              · subst h; exact fok_iff.2 ⟨fun h => absurd h (by decide), fun _ => ⟨hz, hy⟩⟩⟩
            case measure => simp [intOf]
          · go_wp2
            go_ret
            refine ⟨ret_b ?_, X.out⟩
            cases hh : insOk p R ⟨3, a, b, c, n⟩
            · rfl
            · exfalso
              have hq := Hins.out.1 hh
              (simp [fok_iff] at hq) <;> omega
        · go_wp2
          go_ret
          refine ⟨ret_b ?_, X.out⟩
          cases hh : insOk p R ⟨3, a, b, c, n⟩
          · rfl
          · exfalso
            have hq := Hins.out.1 hh
            (simp [fok_iff] at hq) <;> omega
      · have s0 : wr.cell? ⟨ks, 1, none⟩ = some (.int .i64 1) := by rw [bS.cell]; rfl
        have f0 : wr.cell? ⟨kf, 1, none⟩ = some (.int .i64 b) := by rw [bF.cell]; rfl
        by_cases hz : 0 ≤ b
        · by_cases hy : b < R
          · go_wp2
            go_roundw
            case rel => exact ⟨2, by omega, by first | rfl | go_num, HE.out, fun t ht => by
              rcases (show t < 1 ∨ t = 1 by omega) with h | h
              · exact Hok.out t h
              · subst h; exact fok_iff.2 ⟨fun h => absurd h (by decide), fun _ => ⟨hz, hy⟩⟩⟩
            case measure => simp [intOf]
          · go_wp2
            go_ret
            refine ⟨ret_b ?_, X.out⟩
            cases hh : insOk p R ⟨3, a, b, c, n⟩
            · rfl
            · exfalso
              have hq := Hins.out.1 hh
              (simp [fok_iff] at hq) <;> omega
        · go_wp2
          go_ret
          refine ⟨ret_b ?_, X.out⟩
          cases hh : insOk p R ⟨3, a, b, c, n⟩
          · rfl
          · exfalso
            have hq := Hins.out.1 hh
            (simp [fok_iff] at hq) <;> omega
      · have s0 : wr.cell? ⟨ks, 2, none⟩ = some (.int .i64 2) := by rw [bS.cell]; rfl
        have f0 : wr.cell? ⟨kf, 2, none⟩ = some (.int .i64 c) := by rw [bF.cell]; rfl
        go_wp2
        go_roundw
        case rel => exact ⟨3, by omega, by first | rfl | go_num, HE.out, fun t ht => by
          rcases (show t < 2 ∨ t = 2 by omega) with h | h
          · exact Hok.out t h
          · subst h; exact fok_iff.2 ⟨fun h => absurd h (by decide), fun h => absurd h (by decide)⟩⟩
        case measure => simp [intOf]
    · obtain rfl : j = 3 := by omega
      have k0 := Hok.out 0 (by omega)
      have k1 := Hok.out 1 (by omega)
      have k2 := Hok.out 2 (by omega)
      have K := Lib.hid (And.intro k0 (And.intro k1 k2))
      clear k0 k1 k2
      have p0 : wr.cell? ⟨g, 0, none⟩ = some (.slice oa p.regs.length cap) := by rw [bA.cell]; rfl
      have p1 : wr.cell? ⟨g, 1, none⟩ = some (.slice ob p.code.length capb) := by rw [bA.cell]; rfl
      have e0 : wr.cell? ⟨g + 1, 0, none⟩ = some (.int .i64 3) := by rw [bB.cell]; rfl
      have e1 : wr.cell? ⟨g + 1, 1, none⟩ = some (.int .i64 a) := by rw [bB.cell]; rfl
      have e2 : wr.cell? ⟨g + 1, 2, none⟩ = some (.int .i64 b) := by rw [bB.cell]; rfl
      have e3 : wr.cell? ⟨g + 1, 3, none⟩ = some (.int .i64 c) := by rw [bB.cell]; rfl
      have e4 : wr.cell? ⟨g + 1, 4, none⟩ = some (.int .i64 n) := by rw [bB.cell]; rfl
      by_cases q0 : 0 ≤ c
      · by_cases q1 : c < (p.regs.length : Int)
        · go_wp2
          go_ret
          exact ⟨ret_b (Hins.out.2 ⟨⟨K.out.1, K.out.2.1, K.out.2.2⟩, by first | trivial | omega⟩).symm, X.out⟩
        · have q1d : decide (c < (p.regs.length : Int)) = false := by simpa using q1
          go_wp2
          go_ret
          refine ⟨ret_b ?_, X.out⟩
          cases hh : insOk p R ⟨3, a, b, c, n⟩
          · rfl
          · exfalso
            have hq := Hins.out.1 hh
            (simp [fok_iff] at hq) <;> omega
      · have q0d : decide (0 ≤ c) = false := by simpa using q0
        go_wp2
        go_ret
        refine ⟨ret_b ?_, X.out⟩
        cases hh : insOk p R ⟨3, a, b, c, n⟩
        · rfl
        · exfalso
          have hq := Hins.out.1 hh
          (simp [fok_iff] at hq) <;> omega
set_option maxRecDepth 100000 in
set_option maxHeartbeats 4000000 in
theorem rIns_4 (p : LProg) (vp : Value) (R : Int) (a b c n : Int) (fa : R64 a) (fb : R64 b) (fc : R64 c) (fn : R64 n) (fR : R64 R) (w : World) (hp : ProgAt w vp p) :
    Calls Tryd.prog 31 #[vp, .agg #[.int .i64 4, .int .i64 a, .int .i64 b, .int .i64 c, .int .i64 n], .int .i64 R] w fun e w' => e = .returned (.bool (insOk p R ⟨4, a, b, c, n⟩)) ∧ Ext w w' := by
  have HP := Lib.hid hp
  obtain ⟨v1, v2, rfl, ⟨hb, oa, cap, b0, o, rfl, hc1, hc2, hrow⟩, ⟨hf, ob, capb, b2, o2, rfl, hd1, hd2, hrow2⟩⟩ := hp
  have hlen := len_bd hc1 hc2
  have hlen2 := len_bd hd1 hd2
  have Hrow := Lib.hid hrow
  have hat := hrow.at_
  have r0 := fR.1; have r1 := fR.2
  have a0 := fa.1; have a1 := fa.2; have b00 := fb.1; have b01 := fb.2; have c0' := fc.1; have c1' := fc.2; have n0' := fn.1; have n1' := fn.2
  clear hc1 hc2 hd1 hd2 hrow hrow2 hb hf
  have Hgoal : ∀ r : Bool, Hid ((r = true ↔ insOk p R ⟨4, a, b, c, n⟩ = true) → insOk p R ⟨4, a, b, c, n⟩ = r) := fun r => Lib.hid fun h => by
    cases r <;> cases hh : insOk p R ⟨4, a, b, c, n⟩ <;> simp_all
  have Hins : Hid (insOk p R ⟨4, a, b, c, n⟩ = true ↔ (fok R 1 a = true ∧ fok R 1 b = true ∧ fok R 2 c = true) ∧ (0 ≤ c ∧ c < (p.regs.length : Int))) := Lib.hid (by
    simp only [fok_iff]
    unfold insOk; simp [okIn]
    try omega)
  go_enter Tryd.func31, Tryd.ntmps31
  go_wp2_with fail
  obtain ⟨W, g, hg, hW, hx, bA, bB⟩ := blocks2 w #[.slice oa p.regs.length cap, .slice ob p.code.length capb] #[.int .i64 4, .int .i64 a, .int .i64 b, .int .i64 c, .int .i64 n] 25 46
  rw [hW, hg]
  have X := Lib.hid hx
  clear hW hg hx
  have C := (shape_4 W)
  (with_reducible refine C.mono ?_)
  clear C
  rintro e w1 ⟨rfl, hw1⟩
  have bS : Blk w1 W.heap.size 3 #[.int .i64 1, .int .i64 1, .int .i64 2] := by rw [hw1]; exact Blk.new W _ _
  have h1 : Ext W w1 := by rw [hw1]; exact (Ext.refl W).alloc _
  clear hw1
  generalize W.heap.size = ks at *
  have bA := bA.ext h1
  have bB := bB.ext h1
  have X := Lib.hid (X.out.trans h1)
  clear h1
  have p0 : w1.cell? ⟨g, 0, none⟩ = some (.slice oa p.regs.length cap) := by rw [bA.cell]; rfl
  have p1 : w1.cell? ⟨g, 1, none⟩ = some (.slice ob p.code.length capb) := by rw [bA.cell]; rfl
  have e0 : w1.cell? ⟨g + 1, 0, none⟩ = some (.int .i64 4) := by rw [bB.cell]; rfl
  have e1 : w1.cell? ⟨g + 1, 1, none⟩ = some (.int .i64 a) := by rw [bB.cell]; rfl
  have e2 : w1.cell? ⟨g + 1, 2, none⟩ = some (.int .i64 b) := by rw [bB.cell]; rfl
  have e3 : w1.cell? ⟨g + 1, 3, none⟩ = some (.int .i64 c) := by rw [bB.cell]; rfl
  have e4 : w1.cell? ⟨g + 1, 4, none⟩ = some (.int .i64 n) := by rw [bB.cell]; rfl
  go_wp2_with fail
  obtain ⟨w2, hw2⟩ : ∃ w2, w2 = w1.alloc (.cells #[.int .i64 a, .int .i64 b, .int .i64 c] 3) := ⟨_, rfl⟩
  have bF : Blk w2 w1.heap.size 3 #[.int .i64 a, .int .i64 b, .int .i64 c] := by rw [hw2]; exact Blk.new w1 _ _
  have h2 : Ext w1 w2 := by rw [hw2]; exact (Ext.refl w1).alloc _
  rw [← hw2]
  clear hw2
  generalize w1.heap.size = kf at *
  have bA := bA.ext h2
  have bB := bB.ext h2
  have bS := bS.ext h2
  have X := Lib.hid (X.out.trans h2)
  clear h2 p0 p1 e0 e1 e2 e3 e4
  go_loopw [11] (fun i wr => ∃ j : Nat, j ≤ 3 ∧ i = .int .i64 j ∧ Ext w2 wr ∧ ∀ t, t < j → fok R (tri 1 1 2 t) (tri a b c t) = true) (fun i _ => 3 - (intOf i).toNat)
  case atStart => exact ⟨0, by omega, rfl, Ext.refl _, fun t ht => by omega⟩
  case round =>
    obtain ⟨j, hj, rfl, hE, hok⟩ := hrel
    have bA := bA.ext hE
    have bB := bB.ext hE
    have bS := bS.ext hE
    have bF := bF.ext hE
    have X := Lib.hid (X.out.trans hE)
    have HE := Lib.hid hE
    have Hok := Lib.hid hok
    clear hE hok
    by_cases hlt : j < 3
    · have hjj : j = 0 ∨ j = 1 ∨ j = 2 := by omega
      rcases hjj with rfl | rfl | rfl
      · have s0 : wr.cell? ⟨ks, 0, none⟩ = some (.int .i64 1) := by rw [bS.cell]; rfl
        have f0 : wr.cell? ⟨kf, 0, none⟩ = some (.int .i64 a) := by rw [bF.cell]; rfl
        by_cases hz : 0 ≤ a
        · by_cases hy : a < R
          · go_wp2
            go_roundw
            case rel => exact ⟨1, by omega, by first | rfl | go_num, HE.out, fun t ht => by
              rcases (show t < 0 ∨ t = 0 by omega) with h | h
              · exact Hok.out t h
              · subst h; exact fok_iff.2 ⟨fun h => absurd h (by decide), fun _ => ⟨hz, hy⟩⟩⟩
            case measure => simp [intOf]
          · go_wp2
            go_ret
            refine ⟨ret_b ?_, X.out⟩
            cases hh : insOk p R ⟨4, a, b, c, n⟩
            · rfl
            · exfalso
              have hq := Hins.out.1 hh
              (simp [fok_iff] at hq) <;> omega
        · go_wp2
          go_ret
          refine ⟨ret_b ?_, X.out⟩
          cases hh : insOk p R ⟨4, a, b, c, n⟩
          · rfl
          · exfalso
            have hq := Hins.out.1 hh
            (simp [fok_iff] at hq) <;> omega
      · have s0 : wr.cell? ⟨ks, 1, none⟩ = some (.int .i64 1) := by rw [bS.cell]; rfl
        have f0 : wr.cell? ⟨kf, 1, none⟩ = some (.int .i64 b) := by rw [bF.cell]; rfl
        by_cases hz : 0 ≤ b
        · by_cases hy : b < R
          · go_wp2
            go_roundw
            case rel => exact ⟨2, by omega, by first | rfl | go_num, HE.out, fun t ht => by
              rcases (show t < 1 ∨ t = 1 by omega) with h | h
              · exact Hok.out t h
              · subst h; exact fok_iff.2 ⟨fun h => absurd h (by decide), fun _ => ⟨hz, hy⟩⟩⟩
            case measure => simp [intOf]
          · go_wp2
            go_ret
            refine ⟨ret_b ?_, X.out⟩
            cases hh : insOk p R ⟨4, a, b, c, n⟩
            · rfl
            · exfalso
              have hq := Hins.out.1 hh
              (simp [fok_iff] at hq) <;> omega
        · go_wp2
          go_ret
          refine ⟨ret_b ?_, X.out⟩
          cases hh : insOk p R ⟨4, a, b, c, n⟩
          · rfl
          · exfalso
            have hq := Hins.out.1 hh
            (simp [fok_iff] at hq) <;> omega
      · have s0 : wr.cell? ⟨ks, 2, none⟩ = some (.int .i64 2) := by rw [bS.cell]; rfl
        have f0 : wr.cell? ⟨kf, 2, none⟩ = some (.int .i64 c) := by rw [bF.cell]; rfl
        go_wp2
        go_roundw
        case rel => exact ⟨3, by omega, by first | rfl | go_num, HE.out, fun t ht => by
          rcases (show t < 2 ∨ t = 2 by omega) with h | h
          · exact Hok.out t h
          · subst h; exact fok_iff.2 ⟨fun h => absurd h (by decide), fun h => absurd h (by decide)⟩⟩
        case measure => simp [intOf]
    · obtain rfl : j = 3 := by omega
      have k0 := Hok.out 0 (by omega)
      have k1 := Hok.out 1 (by omega)
      have k2 := Hok.out 2 (by omega)
      have K := Lib.hid (And.intro k0 (And.intro k1 k2))
      clear k0 k1 k2
      have p0 : wr.cell? ⟨g, 0, none⟩ = some (.slice oa p.regs.length cap) := by rw [bA.cell]; rfl
      have p1 : wr.cell? ⟨g, 1, none⟩ = some (.slice ob p.code.length capb) := by rw [bA.cell]; rfl
      have e0 : wr.cell? ⟨g + 1, 0, none⟩ = some (.int .i64 4) := by rw [bB.cell]; rfl
      have e1 : wr.cell? ⟨g + 1, 1, none⟩ = some (.int .i64 a) := by rw [bB.cell]; rfl
      have e2 : wr.cell? ⟨g + 1, 2, none⟩ = some (.int .i64 b) := by rw [bB.cell]; rfl
      have e3 : wr.cell? ⟨g + 1, 3, none⟩ = some (.int .i64 c) := by rw [bB.cell]; rfl
      have e4 : wr.cell? ⟨g + 1, 4, none⟩ = some (.int .i64 n) := by rw [bB.cell]; rfl
      by_cases q0 : 0 ≤ c
      · by_cases q1 : c < (p.regs.length : Int)
        · go_wp2
          go_ret
          exact ⟨ret_b (Hins.out.2 ⟨⟨K.out.1, K.out.2.1, K.out.2.2⟩, by first | trivial | omega⟩).symm, X.out⟩
        · have q1d : decide (c < (p.regs.length : Int)) = false := by simpa using q1
          go_wp2
          go_ret
          refine ⟨ret_b ?_, X.out⟩
          cases hh : insOk p R ⟨4, a, b, c, n⟩
          · rfl
          · exfalso
            have hq := Hins.out.1 hh
            (simp [fok_iff] at hq) <;> omega
      · have q0d : decide (0 ≤ c) = false := by simpa using q0
        go_wp2
        go_ret
        refine ⟨ret_b ?_, X.out⟩
        cases hh : insOk p R ⟨4, a, b, c, n⟩
        · rfl
        · exfalso
          have hq := Hins.out.1 hh
          (simp [fok_iff] at hq) <;> omega
set_option maxRecDepth 100000 in
set_option maxHeartbeats 4000000 in
theorem rIns_5 (p : LProg) (vp : Value) (R : Int) (a b c n : Int) (fa : R64 a) (fb : R64 b) (fc : R64 c) (fn : R64 n) (fR : R64 R) (w : World) (hp : ProgAt w vp p) (hreg : ∀ r ∈ p.regs, 0 ≤ r.log ∧ r.log ≤ 6) :
    Calls Tryd.prog 31 #[vp, .agg #[.int .i64 5, .int .i64 a, .int .i64 b, .int .i64 c, .int .i64 n], .int .i64 R] w fun e w' => e = .returned (.bool (insOk p R ⟨5, a, b, c, n⟩)) ∧ Ext w w' := by
  have HP := Lib.hid hp
  obtain ⟨v1, v2, rfl, ⟨hb, oa, cap, b0, o, rfl, hc1, hc2, hrow⟩, ⟨hf, ob, capb, b2, o2, rfl, hd1, hd2, hrow2⟩⟩ := hp
  have hlen := len_bd hc1 hc2
  have hlen2 := len_bd hd1 hd2
  have Hrow := Lib.hid hrow
  have hat := hrow.at_
  have r0 := fR.1; have r1 := fR.2
  have a0 := fa.1; have a1 := fa.2; have b00 := fb.1; have b01 := fb.2; have c0' := fc.1; have c1' := fc.2; have n0' := fn.1; have n1' := fn.2
  clear hc1 hc2 hd1 hd2 hrow hrow2 hb hf
  have Hgoal : ∀ r : Bool, Hid ((r = true ↔ insOk p R ⟨5, a, b, c, n⟩ = true) → insOk p R ⟨5, a, b, c, n⟩ = r) := fun r => Lib.hid fun h => by
    cases r <;> cases hh : insOk p R ⟨5, a, b, c, n⟩ <;> simp_all
  have Hins : Hid (insOk p R ⟨5, a, b, c, n⟩ = true ↔ (fok R 1 a = true ∧ fok R 0 b = true ∧ fok R 2 c = true) ∧ ((0 ≤ c ∧ c < (p.regs.length : Int)) ∧ 0 ≤ n ∧ n < ((wordsOf (p.regs.getD c.toNat default) : Nat) : Int))) := Lib.hid (by
    simp only [fok_iff]
    unfold insOk; simp [okIn]
    try omega)
  go_enter Tryd.func31, Tryd.ntmps31
  go_wp2_with fail
  obtain ⟨W, g, hg, hW, hx, bA, bB⟩ := blocks2 w #[.slice oa p.regs.length cap, .slice ob p.code.length capb] #[.int .i64 5, .int .i64 a, .int .i64 b, .int .i64 c, .int .i64 n] 25 46
  rw [hW, hg]
  have X := Lib.hid hx
  clear hW hg hx
  have C := (shape_5 W)
  (with_reducible refine C.mono ?_)
  clear C
  rintro e w1 ⟨rfl, hw1⟩
  have bS : Blk w1 W.heap.size 3 #[.int .i64 1, .int .i64 0, .int .i64 2] := by rw [hw1]; exact Blk.new W _ _
  have h1 : Ext W w1 := by rw [hw1]; exact (Ext.refl W).alloc _
  clear hw1
  generalize W.heap.size = ks at *
  have bA := bA.ext h1
  have bB := bB.ext h1
  have X := Lib.hid (X.out.trans h1)
  clear h1
  have p0 : w1.cell? ⟨g, 0, none⟩ = some (.slice oa p.regs.length cap) := by rw [bA.cell]; rfl
  have p1 : w1.cell? ⟨g, 1, none⟩ = some (.slice ob p.code.length capb) := by rw [bA.cell]; rfl
  have e0 : w1.cell? ⟨g + 1, 0, none⟩ = some (.int .i64 5) := by rw [bB.cell]; rfl
  have e1 : w1.cell? ⟨g + 1, 1, none⟩ = some (.int .i64 a) := by rw [bB.cell]; rfl
  have e2 : w1.cell? ⟨g + 1, 2, none⟩ = some (.int .i64 b) := by rw [bB.cell]; rfl
  have e3 : w1.cell? ⟨g + 1, 3, none⟩ = some (.int .i64 c) := by rw [bB.cell]; rfl
  have e4 : w1.cell? ⟨g + 1, 4, none⟩ = some (.int .i64 n) := by rw [bB.cell]; rfl
  go_wp2_with fail
  obtain ⟨w2, hw2⟩ : ∃ w2, w2 = w1.alloc (.cells #[.int .i64 a, .int .i64 b, .int .i64 c] 3) := ⟨_, rfl⟩
  have bF : Blk w2 w1.heap.size 3 #[.int .i64 a, .int .i64 b, .int .i64 c] := by rw [hw2]; exact Blk.new w1 _ _
  have h2 : Ext w1 w2 := by rw [hw2]; exact (Ext.refl w1).alloc _
  rw [← hw2]
  clear hw2
  generalize w1.heap.size = kf at *
  have bA := bA.ext h2
  have bB := bB.ext h2
  have bS := bS.ext h2
  have X := Lib.hid (X.out.trans h2)
  clear h2 p0 p1 e0 e1 e2 e3 e4
  go_loopw [11] (fun i wr => ∃ j : Nat, j ≤ 3 ∧ i = .int .i64 j ∧ Ext w2 wr ∧ ∀ t, t < j → fok R (tri 1 0 2 t) (tri a b c t) = true) (fun i _ => 3 - (intOf i).toNat)
  case atStart => exact ⟨0, by omega, rfl, Ext.refl _, fun t ht => by omega⟩
  case round =>
    obtain ⟨j, hj, rfl, hE, hok⟩ := hrel
    have bA := bA.ext hE
    have bB := bB.ext hE
    have bS := bS.ext hE
    have bF := bF.ext hE
    have X := Lib.hid (X.out.trans hE)
    have HE := Lib.hid hE
    have Hok := Lib.hid hok
    clear hE hok
    by_cases hlt : j < 3
    · have hjj : j = 0 ∨ j = 1 ∨ j = 2 := by omega
      rcases hjj with rfl | rfl | rfl
      · have s0 : wr.cell? ⟨ks, 0, none⟩ = some (.int .i64 1) := by rw [bS.cell]; rfl
        have f0 : wr.cell? ⟨kf, 0, none⟩ = some (.int .i64 a) := by rw [bF.cell]; rfl
        by_cases hz : 0 ≤ a
        · by_cases hy : a < R
          · go_wp2
            go_roundw
            case rel => exact ⟨1, by omega, by first | rfl | go_num, HE.out, fun t ht => by
              rcases (show t < 0 ∨ t = 0 by omega) with h | h
              · exact Hok.out t h
              · subst h; exact fok_iff.2 ⟨fun h => absurd h (by decide), fun _ => ⟨hz, hy⟩⟩⟩
            case measure => simp [intOf]
          · go_wp2
            go_ret
            refine ⟨ret_b ?_, X.out⟩
            cases hh : insOk p R ⟨5, a, b, c, n⟩
            · rfl
            · exfalso
              have hq := Hins.out.1 hh
              (simp [fok_iff] at hq) <;> omega
        · go_wp2
          go_ret
          refine ⟨ret_b ?_, X.out⟩
          cases hh : insOk p R ⟨5, a, b, c, n⟩
          · rfl
          · exfalso
            have hq := Hins.out.1 hh
            (simp [fok_iff] at hq) <;> omega
      · have s0 : wr.cell? ⟨ks, 1, none⟩ = some (.int .i64 0) := by rw [bS.cell]; rfl
        have f0 : wr.cell? ⟨kf, 1, none⟩ = some (.int .i64 b) := by rw [bF.cell]; rfl
        by_cases hz : b = 0
        · have hz1 : (b != 0) = false := by simpa using hz
          go_wp2
          go_roundw
          case rel => exact ⟨2, by omega, by first | rfl | go_num, HE.out, fun t ht => by
            rcases (show t < 1 ∨ t = 1 by omega) with h | h
            · exact Hok.out t h
            · subst h; exact fok_iff.2 ⟨fun _ => hz, fun h => absurd h (by decide)⟩⟩
          case measure => simp [intOf]
        · have hz1 : (b != 0) = true := by simpa using hz
          go_wp2
          go_ret
          refine ⟨ret_b ?_, X.out⟩
          cases hh : insOk p R ⟨5, a, b, c, n⟩
          · rfl
          · exfalso
            have hq := Hins.out.1 hh
            (simp [fok_iff] at hq) <;> omega
      · have s0 : wr.cell? ⟨ks, 2, none⟩ = some (.int .i64 2) := by rw [bS.cell]; rfl
        have f0 : wr.cell? ⟨kf, 2, none⟩ = some (.int .i64 c) := by rw [bF.cell]; rfl
        go_wp2
        go_roundw
        case rel => exact ⟨3, by omega, by first | rfl | go_num, HE.out, fun t ht => by
          rcases (show t < 2 ∨ t = 2 by omega) with h | h
          · exact Hok.out t h
          · subst h; exact fok_iff.2 ⟨fun h => absurd h (by decide), fun h => absurd h (by decide)⟩⟩
        case measure => simp [intOf]
    · obtain rfl : j = 3 := by omega
      have k0 := Hok.out 0 (by omega)
      have k1 := Hok.out 1 (by omega)
      have k2 := Hok.out 2 (by omega)
      have K := Lib.hid (And.intro k0 (And.intro k1 k2))
      clear k0 k1 k2
      have p0 : wr.cell? ⟨g, 0, none⟩ = some (.slice oa p.regs.length cap) := by rw [bA.cell]; rfl
      have p1 : wr.cell? ⟨g, 1, none⟩ = some (.slice ob p.code.length capb) := by rw [bA.cell]; rfl
      have e0 : wr.cell? ⟨g + 1, 0, none⟩ = some (.int .i64 5) := by rw [bB.cell]; rfl
      have e1 : wr.cell? ⟨g + 1, 1, none⟩ = some (.int .i64 a) := by rw [bB.cell]; rfl
      have e2 : wr.cell? ⟨g + 1, 2, none⟩ = some (.int .i64 b) := by rw [bB.cell]; rfl
      have e3 : wr.cell? ⟨g + 1, 3, none⟩ = some (.int .i64 c) := by rw [bB.cell]; rfl
      have e4 : wr.cell? ⟨g + 1, 4, none⟩ = some (.int .i64 n) := by rw [bB.cell]; rfl
      by_cases q0 : 0 ≤ c
      · by_cases q1 : c < (p.regs.length : Int)
        · have hcl : c.toNat < p.regs.length := by omega
          have hlog := hreg _ (getD_mem hcl)
          have q0' := (Hrow.out.ext X.out).reg c.toNat hcl
          obtain ⟨m0, m1⟩ := q0'
          have hix := index_regs (cap := cap) hat
          have Hlen : Hid (wordsOf (p.regs.getD c.toNat default) ≤ 64) := Lib.hid (by
            unfold wordsOf
            exact Nat.le_trans (Nat.pow_le_pow_right (by omega) (show (p.regs.getD c.toNat default).log.toNat ≤ 6 by omega)) (by decide))
          generalize p.regs.getD c.toNat default = r at *
          have C := rWords_c r hlog.1 hlog.2 wr
          go_wp2_with fail
          (with_reducible refine C.mono ?_)
          clear C
          rintro e' w3 ⟨rfl, h3⟩
          have e4 := h3.kept e4
          have X := Lib.hid (X.out.trans h3)
          clear h3
          generalize hwd : ((wordsOf r : Nat) : Int) = wd at *
          have hwd1 : wd ≤ 64 := by have := Hlen.out; omega
          by_cases q2 : 0 ≤ n
          · by_cases q3 : n < wd
            · go_wp2
              go_ret
              exact ⟨ret_b (Hins.out.2 ⟨⟨K.out.1, K.out.2.1, K.out.2.2⟩, by first | trivial | omega⟩).symm, X.out⟩
            · have q3d : decide (n < wd) = false := by simpa using q3
              go_wp2
              go_ret
              refine ⟨ret_b ?_, X.out⟩
              cases hh : insOk p R ⟨5, a, b, c, n⟩
              · rfl
              · exfalso
                have hq := Hins.out.1 hh
                (simp [fok_iff] at hq) <;> omega
          · have q2d : decide (0 ≤ n) = false := by simpa using q2
            go_wp2
            go_ret
            refine ⟨ret_b ?_, X.out⟩
            cases hh : insOk p R ⟨5, a, b, c, n⟩
            · rfl
            · exfalso
              have hq := Hins.out.1 hh
              (simp [fok_iff] at hq) <;> omega
        · go_wp2
          go_ret
          refine ⟨ret_b ?_, X.out⟩
          cases hh : insOk p R ⟨5, a, b, c, n⟩
          · rfl
          · exfalso
            have hq := Hins.out.1 hh
            (simp [fok_iff] at hq) <;> omega
      · go_wp2
        go_ret
        refine ⟨ret_b ?_, X.out⟩
        cases hh : insOk p R ⟨5, a, b, c, n⟩
        · rfl
        · exfalso
          have hq := Hins.out.1 hh
          (simp [fok_iff] at hq) <;> omega
set_option maxRecDepth 100000 in
set_option maxHeartbeats 4000000 in
theorem rIns_6 (p : LProg) (vp : Value) (R : Int) (a b c n : Int) (fa : R64 a) (fb : R64 b) (fc : R64 c) (fn : R64 n) (fR : R64 R) (w : World) (hp : ProgAt w vp p) (hreg : ∀ r ∈ p.regs, 0 ≤ r.log ∧ r.log ≤ 6) :
    Calls Tryd.prog 31 #[vp, .agg #[.int .i64 6, .int .i64 a, .int .i64 b, .int .i64 c, .int .i64 n], .int .i64 R] w fun e w' => e = .returned (.bool (insOk p R ⟨6, a, b, c, n⟩)) ∧ Ext w w' := by
  have HP := Lib.hid hp
  obtain ⟨v1, v2, rfl, ⟨hb, oa, cap, b0, o, rfl, hc1, hc2, hrow⟩, ⟨hf, ob, capb, b2, o2, rfl, hd1, hd2, hrow2⟩⟩ := hp
  have hlen := len_bd hc1 hc2
  have hlen2 := len_bd hd1 hd2
  have Hrow := Lib.hid hrow
  have hat := hrow.at_
  have r0 := fR.1; have r1 := fR.2
  have a0 := fa.1; have a1 := fa.2; have b00 := fb.1; have b01 := fb.2; have c0' := fc.1; have c1' := fc.2; have n0' := fn.1; have n1' := fn.2
  clear hc1 hc2 hd1 hd2 hrow hrow2 hb hf
  have Hgoal : ∀ r : Bool, Hid ((r = true ↔ insOk p R ⟨6, a, b, c, n⟩ = true) → insOk p R ⟨6, a, b, c, n⟩ = r) := fun r => Lib.hid fun h => by
    cases r <;> cases hh : insOk p R ⟨6, a, b, c, n⟩ <;> simp_all
  have Hins : Hid (insOk p R ⟨6, a, b, c, n⟩ = true ↔ (fok R 1 a = true ∧ fok R 0 b = true ∧ fok R 2 c = true) ∧ ((0 ≤ c ∧ c < (p.regs.length : Int)) ∧ 0 ≤ n ∧ n < ((wordsOf (p.regs.getD c.toNat default) : Nat) : Int))) := Lib.hid (by
    simp only [fok_iff]
    unfold insOk; simp [okIn]
    try omega)
  go_enter Tryd.func31, Tryd.ntmps31
  go_wp2_with fail
  obtain ⟨W, g, hg, hW, hx, bA, bB⟩ := blocks2 w #[.slice oa p.regs.length cap, .slice ob p.code.length capb] #[.int .i64 6, .int .i64 a, .int .i64 b, .int .i64 c, .int .i64 n] 25 46
  rw [hW, hg]
  have X := Lib.hid hx
  clear hW hg hx
  have C := (shape_6 W)
  (with_reducible refine C.mono ?_)
  clear C
  rintro e w1 ⟨rfl, hw1⟩
  have bS : Blk w1 W.heap.size 3 #[.int .i64 1, .int .i64 0, .int .i64 2] := by rw [hw1]; exact Blk.new W _ _
  have h1 : Ext W w1 := by rw [hw1]; exact (Ext.refl W).alloc _
  clear hw1
  generalize W.heap.size = ks at *
  have bA := bA.ext h1
  have bB := bB.ext h1
  have X := Lib.hid (X.out.trans h1)
  clear h1
  have p0 : w1.cell? ⟨g, 0, none⟩ = some (.slice oa p.regs.length cap) := by rw [bA.cell]; rfl
  have p1 : w1.cell? ⟨g, 1, none⟩ = some (.slice ob p.code.length capb) := by rw [bA.cell]; rfl
  have e0 : w1.cell? ⟨g + 1, 0, none⟩ = some (.int .i64 6) := by rw [bB.cell]; rfl
  have e1 : w1.cell? ⟨g + 1, 1, none⟩ = some (.int .i64 a) := by rw [bB.cell]; rfl
  have e2 : w1.cell? ⟨g + 1, 2, none⟩ = some (.int .i64 b) := by rw [bB.cell]; rfl
  have e3 : w1.cell? ⟨g + 1, 3, none⟩ = some (.int .i64 c) := by rw [bB.cell]; rfl
  have e4 : w1.cell? ⟨g + 1, 4, none⟩ = some (.int .i64 n) := by rw [bB.cell]; rfl
  go_wp2_with fail
  obtain ⟨w2, hw2⟩ : ∃ w2, w2 = w1.alloc (.cells #[.int .i64 a, .int .i64 b, .int .i64 c] 3) := ⟨_, rfl⟩
  have bF : Blk w2 w1.heap.size 3 #[.int .i64 a, .int .i64 b, .int .i64 c] := by rw [hw2]; exact Blk.new w1 _ _
  have h2 : Ext w1 w2 := by rw [hw2]; exact (Ext.refl w1).alloc _
  rw [← hw2]
  clear hw2
  generalize w1.heap.size = kf at *
  have bA := bA.ext h2
  have bB := bB.ext h2
  have bS := bS.ext h2
  have X := Lib.hid (X.out.trans h2)
  clear h2 p0 p1 e0 e1 e2 e3 e4
  go_loopw [11] (fun i wr => ∃ j : Nat, j ≤ 3 ∧ i = .int .i64 j ∧ Ext w2 wr ∧ ∀ t, t < j → fok R (tri 1 0 2 t) (tri a b c t) = true) (fun i _ => 3 - (intOf i).toNat)
  case atStart => exact ⟨0, by omega, rfl, Ext.refl _, fun t ht => by omega⟩
  case round =>
    obtain ⟨j, hj, rfl, hE, hok⟩ := hrel
    have bA := bA.ext hE
    have bB := bB.ext hE
    have bS := bS.ext hE
    have bF := bF.ext hE
    have X := Lib.hid (X.out.trans hE)
    have HE := Lib.hid hE
    have Hok := Lib.hid hok
    clear hE hok
    by_cases hlt : j < 3
    · have hjj : j = 0 ∨ j = 1 ∨ j = 2 := by omega
      rcases hjj with rfl | rfl | rfl
      · have s0 : wr.cell? ⟨ks, 0, none⟩ = some (.int .i64 1) := by rw [bS.cell]; rfl
        have f0 : wr.cell? ⟨kf, 0, none⟩ = some (.int .i64 a) := by rw [bF.cell]; rfl
        by_cases hz : 0 ≤ a
        · by_cases hy : a < R
          · go_wp2
            go_roundw
            case rel => exact ⟨1, by omega, by first | rfl | go_num, HE.out, fun t ht => by
              rcases (show t < 0 ∨ t = 0 by omega) with h | h
              · exact Hok.out t h
              · subst h; exact fok_iff.2 ⟨fun h => absurd h (by decide), fun _ => ⟨hz, hy⟩⟩⟩
            case measure => simp [intOf]
          · go_wp2
            go_ret
            refine ⟨ret_b ?_, X.out⟩
            cases hh : insOk p R ⟨6, a, b, c, n⟩
            · rfl
            · exfalso
              have hq := Hins.out.1 hh
              (simp [fok_iff] at hq) <;> omega
        · go_wp2
          go_ret
          refine ⟨ret_b ?_, X.out⟩
          cases hh : insOk p R ⟨6, a, b, c, n⟩
          · rfl
          · exfalso
            have hq := Hins.out.1 hh
            (simp [fok_iff] at hq) <;> omega
      · have s0 : wr.cell? ⟨ks, 1, none⟩ = some (.int .i64 0) := by rw [bS.cell]; rfl
        have f0 : wr.cell? ⟨kf, 1, none⟩ = some (.int .i64 b) := by rw [bF.cell]; rfl
        by_cases hz : b = 0
        · have hz1 : (b != 0) = false := by simpa using hz
          go_wp2
          go_roundw
          case rel => exact ⟨2, by omega, by first | rfl | go_num, HE.out, fun t ht => by
            rcases (show t < 1 ∨ t = 1 by omega) with h | h
            · exact Hok.out t h
            · subst h; exact fok_iff.2 ⟨fun _ => hz, fun h => absurd h (by decide)⟩⟩
          case measure => simp [intOf]
        · have hz1 : (b != 0) = true := by simpa using hz
          go_wp2
          go_ret
          refine ⟨ret_b ?_, X.out⟩
          cases hh : insOk p R ⟨6, a, b, c, n⟩
          · rfl
          · exfalso
            have hq := Hins.out.1 hh
            (simp [fok_iff] at hq) <;> omega
      · have s0 : wr.cell? ⟨ks, 2, none⟩ = some (.int .i64 2) := by rw [bS.cell]; rfl
        have f0 : wr.cell? ⟨kf, 2, none⟩ = some (.int .i64 c) := by rw [bF.cell]; rfl
        go_wp2
        go_roundw
        case rel => exact ⟨3, by omega, by first | rfl | go_num, HE.out, fun t ht => by
          rcases (show t < 2 ∨ t = 2 by omega) with h | h
          · exact Hok.out t h
          · subst h; exact fok_iff.2 ⟨fun h => absurd h (by decide), fun h => absurd h (by decide)⟩⟩
        case measure => simp [intOf]
    · obtain rfl : j = 3 := by omega
      have k0 := Hok.out 0 (by omega)
      have k1 := Hok.out 1 (by omega)
      have k2 := Hok.out 2 (by omega)
      have K := Lib.hid (And.intro k0 (And.intro k1 k2))
      clear k0 k1 k2
      have p0 : wr.cell? ⟨g, 0, none⟩ = some (.slice oa p.regs.length cap) := by rw [bA.cell]; rfl
      have p1 : wr.cell? ⟨g, 1, none⟩ = some (.slice ob p.code.length capb) := by rw [bA.cell]; rfl
      have e0 : wr.cell? ⟨g + 1, 0, none⟩ = some (.int .i64 6) := by rw [bB.cell]; rfl
      have e1 : wr.cell? ⟨g + 1, 1, none⟩ = some (.int .i64 a) := by rw [bB.cell]; rfl
      have e2 : wr.cell? ⟨g + 1, 2, none⟩ = some (.int .i64 b) := by rw [bB.cell]; rfl
      have e3 : wr.cell? ⟨g + 1, 3, none⟩ = some (.int .i64 c) := by rw [bB.cell]; rfl
      have e4 : wr.cell? ⟨g + 1, 4, none⟩ = some (.int .i64 n) := by rw [bB.cell]; rfl
      by_cases q0 : 0 ≤ c
      · by_cases q1 : c < (p.regs.length : Int)
        · have hcl : c.toNat < p.regs.length := by omega
          have hlog := hreg _ (getD_mem hcl)
          have q0' := (Hrow.out.ext X.out).reg c.toNat hcl
          obtain ⟨m0, m1⟩ := q0'
          have hix := index_regs (cap := cap) hat
          have Hlen : Hid (wordsOf (p.regs.getD c.toNat default) ≤ 64) := Lib.hid (by
            unfold wordsOf
            exact Nat.le_trans (Nat.pow_le_pow_right (by omega) (show (p.regs.getD c.toNat default).log.toNat ≤ 6 by omega)) (by decide))
          generalize p.regs.getD c.toNat default = r at *
          have C := rWords_c r hlog.1 hlog.2 wr
          go_wp2_with fail
          (with_reducible refine C.mono ?_)
          clear C
          rintro e' w3 ⟨rfl, h3⟩
          have e4 := h3.kept e4
          have X := Lib.hid (X.out.trans h3)
          clear h3
          generalize hwd : ((wordsOf r : Nat) : Int) = wd at *
          have hwd1 : wd ≤ 64 := by have := Hlen.out; omega
          by_cases q2 : 0 ≤ n
          · by_cases q3 : n < wd
            · go_wp2
              go_ret
              exact ⟨ret_b (Hins.out.2 ⟨⟨K.out.1, K.out.2.1, K.out.2.2⟩, by first | trivial | omega⟩).symm, X.out⟩
            · have q3d : decide (n < wd) = false := by simpa using q3
              go_wp2
              go_ret
              refine ⟨ret_b ?_, X.out⟩
              cases hh : insOk p R ⟨6, a, b, c, n⟩
              · rfl
              · exfalso
                have hq := Hins.out.1 hh
                (simp [fok_iff] at hq) <;> omega
          · have q2d : decide (0 ≤ n) = false := by simpa using q2
            go_wp2
            go_ret
            refine ⟨ret_b ?_, X.out⟩
            cases hh : insOk p R ⟨6, a, b, c, n⟩
            · rfl
            · exfalso
              have hq := Hins.out.1 hh
              (simp [fok_iff] at hq) <;> omega
        · go_wp2
          go_ret
          refine ⟨ret_b ?_, X.out⟩
          cases hh : insOk p R ⟨6, a, b, c, n⟩
          · rfl
          · exfalso
            have hq := Hins.out.1 hh
            (simp [fok_iff] at hq) <;> omega
      · go_wp2
        go_ret
        refine ⟨ret_b ?_, X.out⟩
        cases hh : insOk p R ⟨6, a, b, c, n⟩
        · rfl
        · exfalso
          have hq := Hins.out.1 hh
          (simp [fok_iff] at hq) <;> omega
set_option maxRecDepth 100000 in
set_option maxHeartbeats 4000000 in
theorem rIns_7 (p : LProg) (vp : Value) (R : Int) (a b c n : Int) (fa : R64 a) (fb : R64 b) (fc : R64 c) (fn : R64 n) (fR : R64 R) (w : World) (hp : ProgAt w vp p) :
    Calls Tryd.prog 31 #[vp, .agg #[.int .i64 7, .int .i64 a, .int .i64 b, .int .i64 c, .int .i64 n], .int .i64 R] w fun e w' => e = .returned (.bool (insOk p R ⟨7, a, b, c, n⟩)) ∧ Ext w w' := by
  have HP := Lib.hid hp
  obtain ⟨v1, v2, rfl, ⟨hb, oa, cap, b0, o, rfl, hc1, hc2, hrow⟩, ⟨hf, ob, capb, b2, o2, rfl, hd1, hd2, hrow2⟩⟩ := hp
  have hlen := len_bd hc1 hc2
  have hlen2 := len_bd hd1 hd2
  have Hrow := Lib.hid hrow
  have hat := hrow.at_
  have r0 := fR.1; have r1 := fR.2
  have a0 := fa.1; have a1 := fa.2; have b00 := fb.1; have b01 := fb.2; have c0' := fc.1; have c1' := fc.2; have n0' := fn.1; have n1' := fn.2
  clear hc1 hc2 hd1 hd2 hrow hrow2 hb hf
  have Hgoal : ∀ r : Bool, Hid ((r = true ↔ insOk p R ⟨7, a, b, c, n⟩ = true) → insOk p R ⟨7, a, b, c, n⟩ = r) := fun r => Lib.hid fun h => by
    cases r <;> cases hh : insOk p R ⟨7, a, b, c, n⟩ <;> simp_all
  have Hins : Hid (insOk p R ⟨7, a, b, c, n⟩ = true ↔ (fok R 0 a = true ∧ fok R 0 b = true ∧ fok R 0 c = true) ∧ (0 ≤ n ∧ n < (p.code.length : Int))) := Lib.hid (by
    simp only [fok_iff]
    unfold insOk; simp [okIn]
    try omega)
  go_enter Tryd.func31, Tryd.ntmps31
  go_wp2_with fail
  obtain ⟨W, g, hg, hW, hx, bA, bB⟩ := blocks2 w #[.slice oa p.regs.length cap, .slice ob p.code.length capb] #[.int .i64 7, .int .i64 a, .int .i64 b, .int .i64 c, .int .i64 n] 25 46
  rw [hW, hg]
  have X := Lib.hid hx
  clear hW hg hx
  have C := (shape_7 W)
  (with_reducible refine C.mono ?_)
  clear C
  rintro e w1 ⟨rfl, hw1⟩
  have bS : Blk w1 W.heap.size 3 #[.int .i64 0, .int .i64 0, .int .i64 0] := by rw [hw1]; exact Blk.new W _ _
  have h1 : Ext W w1 := by rw [hw1]; exact (Ext.refl W).alloc _
  clear hw1
  generalize W.heap.size = ks at *
  have bA := bA.ext h1
  have bB := bB.ext h1
  have X := Lib.hid (X.out.trans h1)
  clear h1
  have p0 : w1.cell? ⟨g, 0, none⟩ = some (.slice oa p.regs.length cap) := by rw [bA.cell]; rfl
  have p1 : w1.cell? ⟨g, 1, none⟩ = some (.slice ob p.code.length capb) := by rw [bA.cell]; rfl
  have e0 : w1.cell? ⟨g + 1, 0, none⟩ = some (.int .i64 7) := by rw [bB.cell]; rfl
  have e1 : w1.cell? ⟨g + 1, 1, none⟩ = some (.int .i64 a) := by rw [bB.cell]; rfl
  have e2 : w1.cell? ⟨g + 1, 2, none⟩ = some (.int .i64 b) := by rw [bB.cell]; rfl
  have e3 : w1.cell? ⟨g + 1, 3, none⟩ = some (.int .i64 c) := by rw [bB.cell]; rfl
  have e4 : w1.cell? ⟨g + 1, 4, none⟩ = some (.int .i64 n) := by rw [bB.cell]; rfl
  go_wp2_with fail
  obtain ⟨w2, hw2⟩ : ∃ w2, w2 = w1.alloc (.cells #[.int .i64 a, .int .i64 b, .int .i64 c] 3) := ⟨_, rfl⟩
  have bF : Blk w2 w1.heap.size 3 #[.int .i64 a, .int .i64 b, .int .i64 c] := by rw [hw2]; exact Blk.new w1 _ _
  have h2 : Ext w1 w2 := by rw [hw2]; exact (Ext.refl w1).alloc _
  rw [← hw2]
  clear hw2
  generalize w1.heap.size = kf at *
  have bA := bA.ext h2
  have bB := bB.ext h2
  have bS := bS.ext h2
  have X := Lib.hid (X.out.trans h2)
  clear h2 p0 p1 e0 e1 e2 e3 e4
  go_loopw [11] (fun i wr => ∃ j : Nat, j ≤ 3 ∧ i = .int .i64 j ∧ Ext w2 wr ∧ ∀ t, t < j → fok R (tri 0 0 0 t) (tri a b c t) = true) (fun i _ => 3 - (intOf i).toNat)
  case atStart => exact ⟨0, by omega, rfl, Ext.refl _, fun t ht => by omega⟩
  case round =>
    obtain ⟨j, hj, rfl, hE, hok⟩ := hrel
    have bA := bA.ext hE
    have bB := bB.ext hE
    have bS := bS.ext hE
    have bF := bF.ext hE
    have X := Lib.hid (X.out.trans hE)
    have HE := Lib.hid hE
    have Hok := Lib.hid hok
    clear hE hok
    by_cases hlt : j < 3
    · have hjj : j = 0 ∨ j = 1 ∨ j = 2 := by omega
      rcases hjj with rfl | rfl | rfl
      · have s0 : wr.cell? ⟨ks, 0, none⟩ = some (.int .i64 0) := by rw [bS.cell]; rfl
        have f0 : wr.cell? ⟨kf, 0, none⟩ = some (.int .i64 a) := by rw [bF.cell]; rfl
        by_cases hz : a = 0
        · have hz1 : (a != 0) = false := by simpa using hz
          go_wp2
          go_roundw
          case rel => exact ⟨1, by omega, by first | rfl | go_num, HE.out, fun t ht => by
            rcases (show t < 0 ∨ t = 0 by omega) with h | h
            · exact Hok.out t h
            · subst h; exact fok_iff.2 ⟨fun _ => hz, fun h => absurd h (by decide)⟩⟩
          case measure => simp [intOf]
        · have hz1 : (a != 0) = true := by simpa using hz
          go_wp2
          go_ret
          refine ⟨ret_b ?_, X.out⟩
          cases hh : insOk p R ⟨7, a, b, c, n⟩
          · rfl
          · exfalso
            have hq := Hins.out.1 hh
            (simp [fok_iff] at hq) <;> omega
      · have s0 : wr.cell? ⟨ks, 1, none⟩ = some (.int .i64 0) := by rw [bS.cell]; rfl
        have f0 : wr.cell? ⟨kf, 1, none⟩ = some (.int .i64 b) := by rw [bF.cell]; rfl
        by_cases hz : b = 0
        · have hz1 : (b != 0) = false := by simpa using hz
          go_wp2
          go_roundw
          case rel => exact ⟨2, by omega, by first | rfl | go_num, HE.out, fun t ht => by
            rcases (show t < 1 ∨ t = 1 by omega) with h | h
            · exact Hok.out t h
            · subst h; exact fok_iff.2 ⟨fun _ => hz, fun h => absurd h (by decide)⟩⟩
          case measure => simp [intOf]
        · have hz1 : (b != 0) = true := by simpa using hz
          go_wp2
          go_ret
          refine ⟨ret_b ?_, X.out⟩
          cases hh : insOk p R ⟨7, a, b, c, n⟩
          · rfl
          · exfalso
            have hq := Hins.out.1 hh
            (simp [fok_iff] at hq) <;> omega
      · have s0 : wr.cell? ⟨ks, 2, none⟩ = some (.int .i64 0) := by rw [bS.cell]; rfl
        have f0 : wr.cell? ⟨kf, 2, none⟩ = some (.int .i64 c) := by rw [bF.cell]; rfl
        by_cases hz : c = 0
        · have hz1 : (c != 0) = false := by simpa using hz
          go_wp2
          go_roundw
          case rel => exact ⟨3, by omega, by first | rfl | go_num, HE.out, fun t ht => by
            rcases (show t < 2 ∨ t = 2 by omega) with h | h
            · exact Hok.out t h
            · subst h; exact fok_iff.2 ⟨fun _ => hz, fun h => absurd h (by decide)⟩⟩
          case measure => simp [intOf]
        · have hz1 : (c != 0) = true := by simpa using hz
          go_wp2
          go_ret
          refine ⟨ret_b ?_, X.out⟩
          cases hh : insOk p R ⟨7, a, b, c, n⟩
          · rfl
          · exfalso
            have hq := Hins.out.1 hh
            (simp [fok_iff] at hq) <;> omega
    · obtain rfl : j = 3 := by omega
      have k0 := Hok.out 0 (by omega)
      have k1 := Hok.out 1 (by omega)
      have k2 := Hok.out 2 (by omega)
      have K := Lib.hid (And.intro k0 (And.intro k1 k2))
      clear k0 k1 k2
      have p0 : wr.cell? ⟨g, 0, none⟩ = some (.slice oa p.regs.length cap) := by rw [bA.cell]; rfl
      have p1 : wr.cell? ⟨g, 1, none⟩ = some (.slice ob p.code.length capb) := by rw [bA.cell]; rfl
      have e0 : wr.cell? ⟨g + 1, 0, none⟩ = some (.int .i64 7) := by rw [bB.cell]; rfl
      have e1 : wr.cell? ⟨g + 1, 1, none⟩ = some (.int .i64 a) := by rw [bB.cell]; rfl
      have e2 : wr.cell? ⟨g + 1, 2, none⟩ = some (.int .i64 b) := by rw [bB.cell]; rfl
      have e3 : wr.cell? ⟨g + 1, 3, none⟩ = some (.int .i64 c) := by rw [bB.cell]; rfl
      have e4 : wr.cell? ⟨g + 1, 4, none⟩ = some (.int .i64 n) := by rw [bB.cell]; rfl
      by_cases q0 : 0 ≤ n
      · by_cases q1 : n < (p.code.length : Int)
        · go_wp2
          go_ret
          exact ⟨ret_b (Hins.out.2 ⟨⟨K.out.1, K.out.2.1, K.out.2.2⟩, by first | trivial | omega⟩).symm, X.out⟩
        · have q1d : decide (n < (p.code.length : Int)) = false := by simpa using q1
          go_wp2
          go_ret
          refine ⟨ret_b ?_, X.out⟩
          cases hh : insOk p R ⟨7, a, b, c, n⟩
          · rfl
          · exfalso
            have hq := Hins.out.1 hh
            (simp [fok_iff] at hq) <;> omega
      · have q0d : decide (0 ≤ n) = false := by simpa using q0
        go_wp2
        go_ret
        refine ⟨ret_b ?_, X.out⟩
        cases hh : insOk p R ⟨7, a, b, c, n⟩
        · rfl
        · exfalso
          have hq := Hins.out.1 hh
          (simp [fok_iff] at hq) <;> omega
set_option maxRecDepth 100000 in
set_option maxHeartbeats 4000000 in
theorem rIns_8 (p : LProg) (vp : Value) (R : Int) (a b c n : Int) (fa : R64 a) (fb : R64 b) (fc : R64 c) (fn : R64 n) (fR : R64 R) (w : World) (hp : ProgAt w vp p) :
    Calls Tryd.prog 31 #[vp, .agg #[.int .i64 8, .int .i64 a, .int .i64 b, .int .i64 c, .int .i64 n], .int .i64 R] w fun e w' => e = .returned (.bool (insOk p R ⟨8, a, b, c, n⟩)) ∧ Ext w w' := by
  have HP := Lib.hid hp
  obtain ⟨v1, v2, rfl, ⟨hb, oa, cap, b0, o, rfl, hc1, hc2, hrow⟩, ⟨hf, ob, capb, b2, o2, rfl, hd1, hd2, hrow2⟩⟩ := hp
  have hlen := len_bd hc1 hc2
  have hlen2 := len_bd hd1 hd2
  have Hrow := Lib.hid hrow
  have hat := hrow.at_
  have r0 := fR.1; have r1 := fR.2
  have a0 := fa.1; have a1 := fa.2; have b00 := fb.1; have b01 := fb.2; have c0' := fc.1; have c1' := fc.2; have n0' := fn.1; have n1' := fn.2
  clear hc1 hc2 hd1 hd2 hrow hrow2 hb hf
  have Hgoal : ∀ r : Bool, Hid ((r = true ↔ insOk p R ⟨8, a, b, c, n⟩ = true) → insOk p R ⟨8, a, b, c, n⟩ = r) := fun r => Lib.hid fun h => by
    cases r <;> cases hh : insOk p R ⟨8, a, b, c, n⟩ <;> simp_all
  have Hins : Hid (insOk p R ⟨8, a, b, c, n⟩ = true ↔ (fok R 1 a = true ∧ fok R 1 b = true ∧ fok R 2 c = true) ∧ (1 ≤ c ∧ c ≤ 4 ∧ 0 ≤ n ∧ n < (p.code.length : Int))) := Lib.hid (by
    simp only [fok_iff]
    unfold insOk; simp [okIn]
    try omega)
  go_enter Tryd.func31, Tryd.ntmps31
  go_wp2_with fail
  obtain ⟨W, g, hg, hW, hx, bA, bB⟩ := blocks2 w #[.slice oa p.regs.length cap, .slice ob p.code.length capb] #[.int .i64 8, .int .i64 a, .int .i64 b, .int .i64 c, .int .i64 n] 25 46
  rw [hW, hg]
  have X := Lib.hid hx
  clear hW hg hx
  have C := (shape_8 W)
  (with_reducible refine C.mono ?_)
  clear C
  rintro e w1 ⟨rfl, hw1⟩
  have bS : Blk w1 W.heap.size 3 #[.int .i64 1, .int .i64 1, .int .i64 2] := by rw [hw1]; exact Blk.new W _ _
  have h1 : Ext W w1 := by rw [hw1]; exact (Ext.refl W).alloc _
  clear hw1
  generalize W.heap.size = ks at *
  have bA := bA.ext h1
  have bB := bB.ext h1
  have X := Lib.hid (X.out.trans h1)
  clear h1
  have p0 : w1.cell? ⟨g, 0, none⟩ = some (.slice oa p.regs.length cap) := by rw [bA.cell]; rfl
  have p1 : w1.cell? ⟨g, 1, none⟩ = some (.slice ob p.code.length capb) := by rw [bA.cell]; rfl
  have e0 : w1.cell? ⟨g + 1, 0, none⟩ = some (.int .i64 8) := by rw [bB.cell]; rfl
  have e1 : w1.cell? ⟨g + 1, 1, none⟩ = some (.int .i64 a) := by rw [bB.cell]; rfl
  have e2 : w1.cell? ⟨g + 1, 2, none⟩ = some (.int .i64 b) := by rw [bB.cell]; rfl
  have e3 : w1.cell? ⟨g + 1, 3, none⟩ = some (.int .i64 c) := by rw [bB.cell]; rfl
  have e4 : w1.cell? ⟨g + 1, 4, none⟩ = some (.int .i64 n) := by rw [bB.cell]; rfl
  go_wp2_with fail
  obtain ⟨w2, hw2⟩ : ∃ w2, w2 = w1.alloc (.cells #[.int .i64 a, .int .i64 b, .int .i64 c] 3) := ⟨_, rfl⟩
  have bF : Blk w2 w1.heap.size 3 #[.int .i64 a, .int .i64 b, .int .i64 c] := by rw [hw2]; exact Blk.new w1 _ _
  have h2 : Ext w1 w2 := by rw [hw2]; exact (Ext.refl w1).alloc _
  rw [← hw2]
  clear hw2
  generalize w1.heap.size = kf at *
  have bA := bA.ext h2
  have bB := bB.ext h2
  have bS := bS.ext h2
  have X := Lib.hid (X.out.trans h2)
  clear h2 p0 p1 e0 e1 e2 e3 e4
  go_loopw [11] (fun i wr => ∃ j : Nat, j ≤ 3 ∧ i = .int .i64 j ∧ Ext w2 wr ∧ ∀ t, t < j → fok R (tri 1 1 2 t) (tri a b c t) = true) (fun i _ => 3 - (intOf i).toNat)
  case atStart => exact ⟨0, by omega, rfl, Ext.refl _, fun t ht => by omega⟩
  case round =>
    obtain ⟨j, hj, rfl, hE, hok⟩ := hrel
    have bA := bA.ext hE
    have bB := bB.ext hE
    have bS := bS.ext hE
    have bF := bF.ext hE
    have X := Lib.hid (X.out.trans hE)
    have HE := Lib.hid hE
    have Hok := Lib.hid hok
    clear hE hok
    by_cases hlt : j < 3
    · have hjj : j = 0 ∨ j = 1 ∨ j = 2 := by omega
      rcases hjj with rfl | rfl | rfl
      · have s0 : wr.cell? ⟨ks, 0, none⟩ = some (.int .i64 1) := by rw [bS.cell]; rfl
        have f0 : wr.cell? ⟨kf, 0, none⟩ = some (.int .i64 a) := by rw [bF.cell]; rfl
        by_cases hz : 0 ≤ a
        · by_cases hy : a < R
          · go_wp2
            go_roundw
            case rel => exact ⟨1, by omega, by first | rfl | go_num, HE.out, fun t ht => by
              rcases (show t < 0 ∨ t = 0 by omega) with h | h
              · exact Hok.out t h
              · subst h; exact fok_iff.2 ⟨fun h => absurd h (by decide), fun _ => ⟨hz, hy⟩⟩⟩
            case measure => simp [intOf]
          · go_wp2
            go_ret
            refine ⟨ret_b ?_, X.out⟩
            cases hh : insOk p R ⟨8, a, b, c, n⟩
            · rfl
            · exfalso
              have hq := Hins.out.1 hh
              (simp [fok_iff] at hq) <;> omega
        · go_wp2
          go_ret
          refine ⟨ret_b ?_, X.out⟩
          cases hh : insOk p R ⟨8, a, b, c, n⟩
          · rfl
          · exfalso
            have hq := Hins.out.1 hh
            (simp [fok_iff] at hq) <;> omega
      · have s0 : wr.cell? ⟨ks, 1, none⟩ = some (.int .i64 1) := by rw [bS.cell]; rfl
        have f0 : wr.cell? ⟨kf, 1, none⟩ = some (.int .i64 b) := by rw [bF.cell]; rfl
        by_cases hz : 0 ≤ b
        · by_cases hy : b < R
          · go_wp2
            go_roundw
            case rel => exact ⟨2, by omega, by first | rfl | go_num, HE.out, fun t ht => by
              rcases (show t < 1 ∨ t = 1 by omega) with h | h
              · exact Hok.out t h
              · subst h; exact fok_iff.2 ⟨fun h => absurd h (by decide), fun _ => ⟨hz, hy⟩⟩⟩
            case measure => simp [intOf]
          · go_wp2
            go_ret
            refine ⟨ret_b ?_, X.out⟩
            cases hh : insOk p R ⟨8, a, b, c, n⟩
            · rfl
            · exfalso
              have hq := Hins.out.1 hh
              (simp [fok_iff] at hq) <;> omega
        · go_wp2
          go_ret
          refine ⟨ret_b ?_, X.out⟩
          cases hh : insOk p R ⟨8, a, b, c, n⟩
          · rfl
          · exfalso
            have hq := Hins.out.1 hh
            (simp [fok_iff] at hq) <;> omega
      · have s0 : wr.cell? ⟨ks, 2, none⟩ = some (.int .i64 2) := by rw [bS.cell]; rfl
        have f0 : wr.cell? ⟨kf, 2, none⟩ = some (.int .i64 c) := by rw [bF.cell]; rfl
        go_wp2
        go_roundw
        case rel => exact ⟨3, by omega, by first | rfl | go_num, HE.out, fun t ht => by
          rcases (show t < 2 ∨ t = 2 by omega) with h | h
          · exact Hok.out t h
          · subst h; exact fok_iff.2 ⟨fun h => absurd h (by decide), fun h => absurd h (by decide)⟩⟩
        case measure => simp [intOf]
    · obtain rfl : j = 3 := by omega
      have k0 := Hok.out 0 (by omega)
      have k1 := Hok.out 1 (by omega)
      have k2 := Hok.out 2 (by omega)
      have K := Lib.hid (And.intro k0 (And.intro k1 k2))
      clear k0 k1 k2
      have p0 : wr.cell? ⟨g, 0, none⟩ = some (.slice oa p.regs.length cap) := by rw [bA.cell]; rfl
      have p1 : wr.cell? ⟨g, 1, none⟩ = some (.slice ob p.code.length capb) := by rw [bA.cell]; rfl
      have e0 : wr.cell? ⟨g + 1, 0, none⟩ = some (.int .i64 8) := by rw [bB.cell]; rfl
      have e1 : wr.cell? ⟨g + 1, 1, none⟩ = some (.int .i64 a) := by rw [bB.cell]; rfl
      have e2 : wr.cell? ⟨g + 1, 2, none⟩ = some (.int .i64 b) := by rw [bB.cell]; rfl
      have e3 : wr.cell? ⟨g + 1, 3, none⟩ = some (.int .i64 c) := by rw [bB.cell]; rfl
      have e4 : wr.cell? ⟨g + 1, 4, none⟩ = some (.int .i64 n) := by rw [bB.cell]; rfl
      by_cases q0 : 1 ≤ c
      · by_cases q1 : c ≤ 4
        · by_cases q2 : 0 ≤ n
          · by_cases q3 : n < (p.code.length : Int)
            · go_wp2
              go_ret
              exact ⟨ret_b (Hins.out.2 ⟨⟨K.out.1, K.out.2.1, K.out.2.2⟩, by first | trivial | omega⟩).symm, X.out⟩
            · have q3d : decide (n < (p.code.length : Int)) = false := by simpa using q3
              go_wp2
              go_ret
              refine ⟨ret_b ?_, X.out⟩
              cases hh : insOk p R ⟨8, a, b, c, n⟩
              · rfl
              · exfalso
                have hq := Hins.out.1 hh
                (simp [fok_iff] at hq) <;> omega
          · have q2d : decide (0 ≤ n) = false := by simpa using q2
            go_wp2
            go_ret
            refine ⟨ret_b ?_, X.out⟩
            cases hh : insOk p R ⟨8, a, b, c, n⟩
            · rfl
            · exfalso
              have hq := Hins.out.1 hh
              (simp [fok_iff] at hq) <;> omega
        · have q1d : decide (c ≤ 4) = false := by simpa using q1
          go_wp2
          go_ret
          refine ⟨ret_b ?_, X.out⟩
          cases hh : insOk p R ⟨8, a, b, c, n⟩
          · rfl
          · exfalso
            have hq := Hins.out.1 hh
            (simp [fok_iff] at hq) <;> omega
      · have q0d : decide (1 ≤ c) = false := by simpa using q0
        go_wp2
        go_ret
        refine ⟨ret_b ?_, X.out⟩
        cases hh : insOk p R ⟨8, a, b, c, n⟩
        · rfl
        · exfalso
          have hq := Hins.out.1 hh
          (simp [fok_iff] at hq) <;> omega
set_option maxRecDepth 100000 in
set_option maxHeartbeats 4000000 in
theorem rIns_9 (p : LProg) (vp : Value) (R : Int) (a b c n : Int) (fa : R64 a) (fb : R64 b) (fc : R64 c) (fn : R64 n) (fR : R64 R) (w : World) (hp : ProgAt w vp p) :
    Calls Tryd.prog 31 #[vp, .agg #[.int .i64 9, .int .i64 a, .int .i64 b, .int .i64 c, .int .i64 n], .int .i64 R] w fun e w' => e = .returned (.bool (insOk p R ⟨9, a, b, c, n⟩)) ∧ Ext w w' := by
  have HP := Lib.hid hp
  obtain ⟨v1, v2, rfl, ⟨hb, oa, cap, b0, o, rfl, hc1, hc2, hrow⟩, ⟨hf, ob, capb, b2, o2, rfl, hd1, hd2, hrow2⟩⟩ := hp
  have hlen := len_bd hc1 hc2
  have hlen2 := len_bd hd1 hd2
  have Hrow := Lib.hid hrow
  have hat := hrow.at_
  have r0 := fR.1; have r1 := fR.2
  have a0 := fa.1; have a1 := fa.2; have b00 := fb.1; have b01 := fb.2; have c0' := fc.1; have c1' := fc.2; have n0' := fn.1; have n1' := fn.2
  clear hc1 hc2 hd1 hd2 hrow hrow2 hb hf
  have Hgoal : ∀ r : Bool, Hid ((r = true ↔ insOk p R ⟨9, a, b, c, n⟩ = true) → insOk p R ⟨9, a, b, c, n⟩ = r) := fun r => Lib.hid fun h => by
    cases r <;> cases hh : insOk p R ⟨9, a, b, c, n⟩ <;> simp_all
  have Hins : Hid (insOk p R ⟨9, a, b, c, n⟩ = true ↔ (fok R 1 a = true ∧ fok R 0 b = true ∧ fok R 0 c = true ∧ n = 0) ∧ True) := Lib.hid (by
    simp only [fok_iff]
    unfold insOk; simp [okIn]
    try omega)
  go_enter Tryd.func31, Tryd.ntmps31
  go_wp2_with fail
  obtain ⟨W, g, hg, hW, hx, bA, bB⟩ := blocks2 w #[.slice oa p.regs.length cap, .slice ob p.code.length capb] #[.int .i64 9, .int .i64 a, .int .i64 b, .int .i64 c, .int .i64 n] 25 46
  rw [hW, hg]
  have X := Lib.hid hx
  clear hW hg hx
  have C := (shape_9 W)
  (with_reducible refine C.mono ?_)
  clear C
  rintro e w1 ⟨rfl, hw1⟩
  have bS : Blk w1 W.heap.size 3 #[.int .i64 1, .int .i64 0, .int .i64 0] := by rw [hw1]; exact Blk.new W _ _
  have h1 : Ext W w1 := by rw [hw1]; exact (Ext.refl W).alloc _
  clear hw1
  generalize W.heap.size = ks at *
  have bA := bA.ext h1
  have bB := bB.ext h1
  have X := Lib.hid (X.out.trans h1)
  clear h1
  have p0 : w1.cell? ⟨g, 0, none⟩ = some (.slice oa p.regs.length cap) := by rw [bA.cell]; rfl
  have p1 : w1.cell? ⟨g, 1, none⟩ = some (.slice ob p.code.length capb) := by rw [bA.cell]; rfl
  have e0 : w1.cell? ⟨g + 1, 0, none⟩ = some (.int .i64 9) := by rw [bB.cell]; rfl
  have e1 : w1.cell? ⟨g + 1, 1, none⟩ = some (.int .i64 a) := by rw [bB.cell]; rfl
  have e2 : w1.cell? ⟨g + 1, 2, none⟩ = some (.int .i64 b) := by rw [bB.cell]; rfl
  have e3 : w1.cell? ⟨g + 1, 3, none⟩ = some (.int .i64 c) := by rw [bB.cell]; rfl
  have e4 : w1.cell? ⟨g + 1, 4, none⟩ = some (.int .i64 n) := by rw [bB.cell]; rfl
  by_cases hn : n = 0
  rotate_left
  · have hn1 : (n != 0) = true := by simpa using hn
    go_wp2
    go_ret
    refine ⟨ret_b ?_, X.out⟩
    cases hh : insOk p R ⟨9, a, b, c, n⟩
    · rfl
    · exfalso
      have hq := Hins.out.1 hh
      (simp [fok_iff] at hq) <;> omega
  subst hn
  clear n0' n1'
  go_wp2_with fail
  obtain ⟨w2, hw2⟩ : ∃ w2, w2 = w1.alloc (.cells #[.int .i64 a, .int .i64 b, .int .i64 c] 3) := ⟨_, rfl⟩
  have bF : Blk w2 w1.heap.size 3 #[.int .i64 a, .int .i64 b, .int .i64 c] := by rw [hw2]; exact Blk.new w1 _ _
  have h2 : Ext w1 w2 := by rw [hw2]; exact (Ext.refl w1).alloc _
  rw [← hw2]
  clear hw2
  generalize w1.heap.size = kf at *
  have bA := bA.ext h2
  have bB := bB.ext h2
  have bS := bS.ext h2
  have X := Lib.hid (X.out.trans h2)
  clear h2 p0 p1 e0 e1 e2 e3 e4
  go_loopw [11] (fun i wr => ∃ j : Nat, j ≤ 3 ∧ i = .int .i64 j ∧ Ext w2 wr ∧ ∀ t, t < j → fok R (tri 1 0 0 t) (tri a b c t) = true) (fun i _ => 3 - (intOf i).toNat)
  case atStart => exact ⟨0, by omega, rfl, Ext.refl _, fun t ht => by omega⟩
  case round =>
    obtain ⟨j, hj, rfl, hE, hok⟩ := hrel
    have bA := bA.ext hE
    have bB := bB.ext hE
    have bS := bS.ext hE
    have bF := bF.ext hE
    have X := Lib.hid (X.out.trans hE)
    have HE := Lib.hid hE
    have Hok := Lib.hid hok
    clear hE hok
    by_cases hlt : j < 3
    · have hjj : j = 0 ∨ j = 1 ∨ j = 2 := by omega
      rcases hjj with rfl | rfl | rfl
      · have s0 : wr.cell? ⟨ks, 0, none⟩ = some (.int .i64 1) := by rw [bS.cell]; rfl
        have f0 : wr.cell? ⟨kf, 0, none⟩ = some (.int .i64 a) := by rw [bF.cell]; rfl
        by_cases hz : 0 ≤ a
        · by_cases hy : a < R
          · go_wp2
            go_roundw
            case rel => exact ⟨1, by omega, by first | rfl | go_num, HE.out, fun t ht => by
              rcases (show t < 0 ∨ t = 0 by omega) with h | h
              · exact Hok.out t h
              · subst h; exact fok_iff.2 ⟨fun h => absurd h (by decide), fun _ => ⟨hz, hy⟩⟩⟩
            case measure => simp [intOf]
          · go_wp2
            go_ret
            refine ⟨ret_b ?_, X.out⟩
            cases hh : insOk p R ⟨9, a, b, c, 0⟩
            · rfl
            · exfalso
              have hq := Hins.out.1 hh
              (simp [fok_iff] at hq) <;> omega
        · go_wp2
          go_ret
          refine ⟨ret_b ?_, X.out⟩
          cases hh : insOk p R ⟨9, a, b, c, 0⟩
          · rfl
          · exfalso
            have hq := Hins.out.1 hh
            (simp [fok_iff] at hq) <;> omega
      · have s0 : wr.cell? ⟨ks, 1, none⟩ = some (.int .i64 0) := by rw [bS.cell]; rfl
        have f0 : wr.cell? ⟨kf, 1, none⟩ = some (.int .i64 b) := by rw [bF.cell]; rfl
        by_cases hz : b = 0
        · have hz1 : (b != 0) = false := by simpa using hz
          go_wp2
          go_roundw
          case rel => exact ⟨2, by omega, by first | rfl | go_num, HE.out, fun t ht => by
            rcases (show t < 1 ∨ t = 1 by omega) with h | h
            · exact Hok.out t h
            · subst h; exact fok_iff.2 ⟨fun _ => hz, fun h => absurd h (by decide)⟩⟩
          case measure => simp [intOf]
        · have hz1 : (b != 0) = true := by simpa using hz
          go_wp2
          go_ret
          refine ⟨ret_b ?_, X.out⟩
          cases hh : insOk p R ⟨9, a, b, c, 0⟩
          · rfl
          · exfalso
            have hq := Hins.out.1 hh
            (simp [fok_iff] at hq) <;> omega
      · have s0 : wr.cell? ⟨ks, 2, none⟩ = some (.int .i64 0) := by rw [bS.cell]; rfl
        have f0 : wr.cell? ⟨kf, 2, none⟩ = some (.int .i64 c) := by rw [bF.cell]; rfl
        by_cases hz : c = 0
        · have hz1 : (c != 0) = false := by simpa using hz
          go_wp2
          go_roundw
          case rel => exact ⟨3, by omega, by first | rfl | go_num, HE.out, fun t ht => by
            rcases (show t < 2 ∨ t = 2 by omega) with h | h
            · exact Hok.out t h
            · subst h; exact fok_iff.2 ⟨fun _ => hz, fun h => absurd h (by decide)⟩⟩
          case measure => simp [intOf]
        · have hz1 : (c != 0) = true := by simpa using hz
          go_wp2
          go_ret
          refine ⟨ret_b ?_, X.out⟩
          cases hh : insOk p R ⟨9, a, b, c, 0⟩
          · rfl
          · exfalso
            have hq := Hins.out.1 hh
            (simp [fok_iff] at hq) <;> omega
    · obtain rfl : j = 3 := by omega
      have k0 := Hok.out 0 (by omega)
      have k1 := Hok.out 1 (by omega)
      have k2 := Hok.out 2 (by omega)
      have K := Lib.hid (And.intro k0 (And.intro k1 k2))
      clear k0 k1 k2
      have p0 : wr.cell? ⟨g, 0, none⟩ = some (.slice oa p.regs.length cap) := by rw [bA.cell]; rfl
      have p1 : wr.cell? ⟨g, 1, none⟩ = some (.slice ob p.code.length capb) := by rw [bA.cell]; rfl
      have e0 : wr.cell? ⟨g + 1, 0, none⟩ = some (.int .i64 9) := by rw [bB.cell]; rfl
      have e1 : wr.cell? ⟨g + 1, 1, none⟩ = some (.int .i64 a) := by rw [bB.cell]; rfl
      have e2 : wr.cell? ⟨g + 1, 2, none⟩ = some (.int .i64 b) := by rw [bB.cell]; rfl
      have e3 : wr.cell? ⟨g + 1, 3, none⟩ = some (.int .i64 c) := by rw [bB.cell]; rfl
      have e4 : wr.cell? ⟨g + 1, 4, none⟩ = some (.int .i64 0) := by rw [bB.cell]; rfl
      go_wp2
      go_ret
      exact ⟨ret_b (Hins.out.2 ⟨⟨K.out.1, K.out.2.1, K.out.2.2, by trivial⟩, by first | trivial | omega⟩).symm, X.out⟩
end Go.Proofs.YtkkekbnhndfhjaaDoor
