/- Laid together from: Fd, FdS. -/
import Derived.Test.YtceocimckkgaoaaFindSameB31
import Derived.Test.YtceocimckkgaoaaFindSameB4
import Derived.Deep.DeepCutAuto
import Derived.LoopN

namespace Go.Proofs.Ytceocimckkgaoaa
open Go.ChangeShapes Go.WideShapes Go.ChangeAt Go.RowKit
set_option linter.unusedVariables false
set_option linter.unusedSimpArgs false
theorem Qd4 (g : Nat) (W : World) (i : Int) (h0 : 0 ≤ i) (h1 : i < 2) :
  (Instr.indexAt 42 (.pointer (some ⟨g, 0, none⟩)) (.int .i64 i)).run Try.prog W = .ok (.pointer (some ⟨g, i.toNat, none⟩)) W := by
 have hs : (Try.prog.info? 32).map (·.size) = some 1 := by kernel_rfl
 simp [Instr.indexAt, run_underlying Try.underlying42, asIntOf, Instr.sureAddr, h0, h1]
 rw [Q2m g 0 _]
 simp
theorem Q7i (x y : LSee) (w : World) : (binOp .neq 45 (.agg #[.int .i64 x.kind, .int .i64 x.a, .int .i64 x.b]) (.agg #[.int .i64 y.kind, .int .i64 y.a, .int .i64 y.b])).run Try.prog w = .ok (.bool (!(x.kind == y.kind && x.a == y.a && x.b == y.b))) w := by
 go_simp
 by_cases h1 : x.kind = y.kind <;> by_cases h2 : x.a = y.a <;> by_cases h3 : x.b = y.b <;> simp [h1, h2, h3]
theorem Q7j (x y : LSee) : (x.kind == y.kind && x.a == y.a && x.b == y.b) = decide (x = y) := by
 cases x
 cases y
 simp only [LSee.mk.injEq, Bool.decide_and]
 rw [Bool.and_assoc]
 rfl
theorem Qbh (o1 o2 : Option Addr) (n1 c1 n2 c2 : Nat) (W : World) : (Instr.index 43 (.agg #[.slice o1 n1 c1, .slice o2 n2 c2]) (.int .i64 0)).run Try.prog W = .ok (.slice o1 n1 c1) W := by
 first | kernel_rfl | (simp [Instr.index]; done)
theorem Qbg (o1 o2 : Option Addr) (n1 c1 n2 c2 : Nat) (W : World) : (Instr.index 43 (.agg #[.slice o1 n1 c1, .slice o2 n2 c2]) (.int .i64 1)).run Try.prog W = .ok (.slice o2 n2 c2) W := by
 first | kernel_rfl | (simp [Instr.index]; done)
theorem Q2p {P : Program} {w : World} {a b c : Tmp} {fn : Func} {va vb vc : Value} (hr : fn.results = #[.tmp a, .tmp b, .tmp c]) (tmps : Array Value) (ha : tmps.getD a undef = va) (hb : tmps.getD b undef = vb) (hc : tmps.getD c undef = vc) : (results fn tmps).run P w = .ok (.tuple #[va, vb, vc]) w := by
 have ha' : tmps[a]?.getD undef = va := by simpa using ha
 have hb' : tmps[b]?.getD undef = vb := by simpa using hb
 have hc' : tmps[c]?.getD undef = vc := by simpa using hc
 simp [results, hr, ha', hb', hc']
def Q3y (p : Q00) (a b : List (List Int)) (script : List Int) (fuel : Int) : Int := if Q0k p a script fuel = 0 then Q0k p b script fuel else Q0k p a script fuel
def Q18 (e0 : Int) (x y : List LSee) (w : World) (e : Ending) (w' : World) : Prop :=
 e = .returned (.tuple #[.int .i64 (if e0 = 0 then Q3x x y else 0), .bool (if e0 = 0 then Q2x x y else false), .int .i64 e0]) ∧ Ext w w'
theorem Q18.no {e0 : Int} {x y : List LSee} {w w' : World} (h : e0 ≠ 0) (hx : Ext w w') : Q18 e0 x y w (.returned (.tuple #[.int .i64 0, .bool false, .int .i64 e0])) w' := by
 unfold Q18
 rw [if_neg h, if_neg h]
 exact ⟨rfl, hx⟩
theorem Q18.at_ {x y : List LSee} {k : Nat} {w w' : World} (h1 : k ≤ x.length) (h2 : k ≤ y.length) (he : ∀ j, j < k → x.getD j default = y.getD j default) (h3 : k = x.length ∨ k = y.length ∨ x.getD k default ≠ y.getD k default) (h4 : k < x.length ∨ k < y.length) (hx : Ext w w') :
  Q18 0 x y w (.returned (.tuple #[.int .i64 k, .bool true, .int .i64 0])) w' := by
 obtain ⟨e1, e2⟩ := Qdh h1 h2 he h3 h4
 unfold Q18
 rw [if_pos rfl, if_pos rfl, e1, e2]
 exact ⟨rfl, hx⟩
theorem Q18.none {x y : List LSee} {k : Nat} {w w' : World} (h1 : k = x.length) (h2 : k = y.length) (he : ∀ j, j < k → x.getD j default = y.getD j default) (hx : Ext w w') : Q18 0 x y w (.returned (.tuple #[.int .i64 0, .bool false, .int .i64 0])) w' := by
 obtain ⟨e1, e2⟩ := Q8p h1 h2 he
 unfold Q18
 rw [if_pos rfl, if_pos rfl, e1, e2]
 exact ⟨rfl, hx⟩
theorem Q5r {w : World} {a b c d e : Value} {fin value : Int} {steps : Nat} {seen : List LSee} {mem : List (List Int)} (h : Q2f w (.agg #[a, b, c, d, e]) fin value steps seen mem) : Q2q w d seen := by
 obtain ⟨vs, vm, h1, h2, -⟩ := h
 simp only [Value.agg.injEq, Array.mk.injEq, List.cons.injEq, and_true] at h1
 obtain ⟨-, -, -, rfl, -⟩ := h1
 exact h2
theorem Q2q.far {w : World} {g i : Nat} {t : TypeId} {o1 o2 : Option Addr} {n1 c1 n2 c2 : Nat} {u v : Value} {l : List LSee} (hb : Blk w g t #[.slice o1 n1 c1, .slice o2 n2 c2]) (h : Q2q w v l) : Q2q (w.setCell ⟨g, i, none⟩ u) v l := by
 obtain ⟨oa, cap, b, o, rfl, h1, h2, hrow⟩ := h
 refine ⟨oa, cap, b, o, rfl, h1, h2, hrow.at_, fun i' j hi hj => ?_⟩
 have hc := hrow.cell i' j hi hj
 have hne : b ≠ g := by
  rintro rfl
  rw [hb.cell] at hc
  have hs : ∃ x, Q1w (l.getD i' default) j = .int .i64 x := by
   rcases (show j = 0 ∨ j = 1 ∨ j = 2 by omega) with rfl | rfl | rfl <;> exact ⟨_, rfl⟩
  obtain ⟨x, hx⟩ := hs
  rw [hx] at hc
  generalize o + i' * 3 + j = q at hc
  match q, hc with
  | 0, hc => simp at hc
  | 1, hc => simp at hc
  | q + 2, hc => simp at hc
 rw [World.cell?_setCell_other _ _ _ _ (by simp [Ne.symm hne])]
 exact hc
def Q5t (p : Q00) (a : List (List Int)) (script : List Int) (fuel : Int) : List LSee := (endS (runS p fuel.toNat (Q0p a.flatten script))).seen
set_option maxRecDepth 100000 in
set_option maxHeartbeats 8000000 in
theorem Qdk (p : Q00) (a b : List (List Int)) (script : List Int) (fuel : Int) (v va vb vx : Value) (w : World) (hp : Q1u w v p) (ha : Q1v w va a) (hb : Q1v w vb b) (hs : Q1c w vx script) (hf : R64 fuel) :
  Calls Try.prog 7 #[v, va, vb, vx, .int .i64 fuel] w (Q18 (Q3y p a b script fuel) (Q5t p a script fuel) (Q5t p b script fuel) w) := by
 have HP := Lib.hid hp
 have HA := Lib.hid ha
 have HB := Lib.hid hb
 have HS := Lib.hid hs
 have Hf := Lib.hid hf
 obtain ⟨a0, a1, a2, b0, b1, b2, rfl⟩ := Q61 hp
 obtain ⟨oA, cA, rfl⟩ : ∃ o c, va = .slice o a.length c := by
  obtain ⟨oa, cap, b, o, rfl, -⟩ := ha
  exact ⟨_, _, rfl⟩
 obtain ⟨oB, cB, rfl⟩ : ∃ o c, vb = .slice o b.length c := by
  obtain ⟨oa, cap, b, o, rfl, -⟩ := hb
  exact ⟨_, _, rfl⟩
 clear hp ha hb hs hf
 unfold Q5t Q3y
 have R1 := Lib.hid fun W (X : Ext w W) => Q4s p a script fuel _ _ vx W (HP.out.ext X) (HA.out.ext X) (HS.out.ext X) Hf.out
 have R2 := Lib.hid fun W (X : Ext w W) => Q4s p b script fuel _ _ vx W (HP.out.ext X) (HB.out.ext X) (HS.out.ext X) Hf.out
 generalize endS (runS p fuel.toNat (Q0p a.flatten script)) = F at *
 generalize endS (runS p fuel.toNat (Q0p b.flatten script)) = G at *
 have hixa := Qd4
 have hp0 := Qbh
 have hp1 := Qbg
 by_cases h1 : Q0k p a script fuel = 0
 ·rw [if_pos h1]
  have C1 := Lib.hid fun W X => Q5p h1 (R1.out W X)
  by_cases h2 : Q0k p b script fuel = 0
  ·rw [h2]
   have C2 := Lib.hid fun W X => Q5p h2 (R2.out W X)
   clear R1 R2 h1 h2
   go_enter Try.func7, Try.ntmps7
   go_wp2_with fail
   refine wp_loop_rounds 3 ?_
   rw [rounds_succ]
   go_wp2_with fail
   obtain ⟨W, gp, hg, hW, hx, bP, bA⟩ := Q41 w #[.slice a0 a1 a2, .slice b0 b1 b2] #[.slice none 0 0, .slice none 0 0] 25 42
   rw [hW, hg]
   have X := Lib.hid hx
   have hga : w.heap.size ≤ gp + 1 := by omega
   have Hga := Lib.hid hga
   clear hW hg hx hga
   (with_reducible refine (C1.out W X.out).mono ?_)
   clear C1
   rintro e w1 ⟨s1, s2, s3, s4, rfl, hx, hS⟩
   have X := Lib.hid (X.out.trans hx)
   have S1 := Lib.hid (Q5r hS)
   have bP := bP.ext hx
   have bA := bA.ext hx
   have q0 : w1.cell? ⟨gp + 1, 0, none⟩ = some (.slice none 0 0) ∧ w1.frozen? ⟨gp + 1, 0, none⟩ = false := ⟨by rw [bA.cell]; rfl, bA.frozen _⟩
   have hgal := bA.lt
   clear hx hS
   go_wp2_with fail
   have X := Lib.hid ((X.out.setCell (p := ⟨gp + 1, 0, none⟩) Hga.out (.slice s1 F.seen.length s2)).alloc (.cells #[.int .i64 F.fin, .int .i64 F.value, .int .i64 F.steps, .slice s1 F.seen.length s2, .slice s3 (Q0j p F.pl.words).length s4] 34))
   have S1 := Lib.hid ((S1.out.far (i := 0) (u := .slice s1 F.seen.length s2) bA).ext ((Ext.refl _).alloc (.cells #[.int .i64 F.fin, .int .i64 F.value, .int .i64 F.steps, .slice s1 F.seen.length s2, .slice s3 (Q0j p F.pl.words).length s4] 34)))
   have bP := (bP.far (p := ⟨gp + 1, 0, none⟩) (by show gp ≠ gp + 1; omega) (.slice s1 F.seen.length s2)).alloc (.cells #[.int .i64 F.fin, .int .i64 F.value, .int .i64 F.steps, .slice s1 F.seen.length s2, .slice s3 (Q0j p F.pl.words).length s4] 34)
   have bA := (bA.set_ 0 (.slice s1 F.seen.length s2)).alloc (.cells #[.int .i64 F.fin, .int .i64 F.value, .int .i64 F.steps, .slice s1 F.seen.length s2, .slice s3 (Q0j p F.pl.words).length s4] 34)
   generalize (w1.setCell ⟨gp + 1, 0, none⟩ (.slice s1 F.seen.length s2)).alloc (.cells #[.int .i64 F.fin, .int .i64 F.value, .int .i64 F.steps, .slice s1 F.seen.length s2, .slice s3 (Q0j p F.pl.words).length s4] 34) = w2 at *
   have c0 : w2.cell? ⟨gp, 0, none⟩ = some (.slice a0 a1 a2) := by rw [bP.cell]; rfl
   have c1 : w2.cell? ⟨gp, 1, none⟩ = some (.slice b0 b1 b2) := by rw [bP.cell]; rfl
   have hgal2 := bA.lt
   clear q0 hgal
   rw [rounds_succ]
   go_wp2_with fail
   (with_reducible refine (C2.out w2 X.out).mono ?_)
   clear C2
   rintro e w3 ⟨t1, t2, t3, t4, rfl, hx, hS⟩
   have X := Lib.hid (X.out.trans hx)
   have S1 := Lib.hid (S1.out.ext hx)
   have S2 := Lib.hid (Q5r hS)
   have bA : Blk w3 (gp + 1) 42 #[.slice s1 F.seen.length s2, .slice none 0 0] := bA.ext hx
   have q1 : w3.cell? ⟨gp + 1, 1, none⟩ = some (.slice none 0 0) ∧ w3.frozen? ⟨gp + 1, 1, none⟩ = false := ⟨by rw [bA.cell]; rfl, bA.frozen _⟩
   have hgal := bA.lt
   clear hx hS bP c0 c1 hgal2
   go_wp2_with fail
   have X := Lib.hid ((X.out.setCell (p := ⟨gp + 1, 1, none⟩) Hga.out (.slice t1 G.seen.length t2)).alloc (.cells #[.int .i64 G.fin, .int .i64 G.value, .int .i64 G.steps, .slice t1 G.seen.length t2, .slice t3 (Q0j p G.pl.words).length t4] 34))
   have S1 := Lib.hid ((S1.out.far (i := 1) (u := .slice t1 G.seen.length t2) bA).ext ((Ext.refl _).alloc (.cells #[.int .i64 G.fin, .int .i64 G.value, .int .i64 G.steps, .slice t1 G.seen.length t2, .slice t3 (Q0j p G.pl.words).length t4] 34)))
   have S2 := Lib.hid ((S2.out.far (i := 1) (u := .slice t1 G.seen.length t2) bA).ext ((Ext.refl _).alloc (.cells #[.int .i64 G.fin, .int .i64 G.value, .int .i64 G.steps, .slice t1 G.seen.length t2, .slice t3 (Q0j p G.pl.words).length t4] 34)))
   have bA := (bA.set_ 1 (.slice t1 G.seen.length t2)).alloc (.cells #[.int .i64 G.fin, .int .i64 G.value, .int .i64 G.steps, .slice t1 G.seen.length t2, .slice t3 (Q0j p G.pl.words).length t4] 34)
   generalize (w3.setCell ⟨gp + 1, 1, none⟩ (.slice t1 G.seen.length t2)).alloc (.cells #[.int .i64 G.fin, .int .i64 G.value, .int .i64 G.steps, .slice t1 G.seen.length t2, .slice t3 (Q0j p G.pl.words).length t4] 34) = w4 at *
   have BA : Hid (Blk w4 (gp + 1) 42 #[.slice s1 F.seen.length s2, .slice t1 G.seen.length t2]) := Lib.hid bA
   have q0 : w4.cell? ⟨gp + 1, 0, none⟩ = some (.slice s1 F.seen.length s2) := by rw [BA.out.cell]; rfl
   have q1 : w4.cell? ⟨gp + 1, 1, none⟩ = some (.slice t1 G.seen.length t2) := by rw [BA.out.cell]; rfl
   have hgal2 := bA.lt
   clear hgal bA
   rw [rounds_succ]
   obtain ⟨or_1, cr1, br1, or1, hq1, hc1, hc2, hrow1⟩ := S1.out
   simp only [Value.slice.injEq, true_and] at hq1
   obtain ⟨rfl, rfl⟩ := hq1
   obtain ⟨or_2, cr2, br2, or2, hq2, hd1, hd2, hrow2⟩ := S2.out
   simp only [Value.slice.injEq, true_and] at hq2
   obtain ⟨rfl, rfl⟩ := hq2
   have hlen := Q2d hc1 hc2
   have hlen2 := Q2d hd1 hd2
   have hix := Q8m (cap := s2) hrow1.at_
   have hix2 := Q8m (cap := t2) hrow2.at_
   have Hrow1 := Lib.hid hrow1
   have Hrow2 := Lib.hid hrow2
   clear hrow1 hrow2 hc1 hc2 hd1 hd2 S1 S2 BA
   rcases Nat.lt_or_ge F.seen.length G.seen.length with hl | hl
   ·have hN : decide (F.seen.length < G.seen.length) = true := by simp; omega
    go_wp2_with fail
    go_loopw [18, 49] (fun _ i wr => ∃ k : Nat, k ≤ F.seen.length ∧ k ≤ G.seen.length ∧ i = .int .i64 k ∧ (∀ j, j < k → F.seen.getD j default = G.seen.getD j default) ∧ Ext w4 wr) (fun _ i _ => G.seen.length - (intOf i).toNat)
    case atStart => exact ⟨0, by omega, by omega, rfl, fun j hj => by omega, Ext.refl _⟩
    case round =>
     obtain ⟨k, hkF, hkG, rfl, hall, hE⟩ := hrel
     have Hall := Lib.hid hall
     have XE := Lib.hid hE
     have a0 : ∀ W, Ext wr W → W.cell? ⟨gp + 1, 0, none⟩ = some (.slice s1 F.seen.length s2) := fun _ h => h.kept (hE.kept q0)
     have a1 : ∀ W, Ext wr W → W.cell? ⟨gp + 1, 1, none⟩ = some (.slice t1 G.seen.length t2) := fun _ h => h.kept (hE.kept q1)
     have hgr := hE.lt hgal2
     clear hall hE q0 q1 hgal2
     by_cases hlt : k < G.seen.length
     ·by_cases hF : k < F.seen.length
      ·have dF : decide ((F.seen.length : Int) ≤ (k : Int)) = false := by simp; omega
       by_cases hG : k < G.seen.length
       ·have dG : decide ((G.seen.length : Int) ≤ (k : Int)) = false := by simp; omega
        obtain ⟨e0, e1, e2⟩ := (Hrow1.out.ext XE.out).see k hF
        obtain ⟨f0, f1, f2⟩ := (Hrow2.out.ext XE.out).see k hG
        have k0 : ∀ W, Ext wr W → W.cell? ⟨br1, or1 + k * 3, none⟩ = some (.int .i64 (F.seen.getD k default).kind) := fun _ h => h.kept e0
        have k1 : ∀ W, Ext wr W → W.cell? ⟨br1, or1 + k * 3 + 1, none⟩ = some (.int .i64 (F.seen.getD k default).a) := fun _ h => h.kept e1
        have k2 : ∀ W, Ext wr W → W.cell? ⟨br1, or1 + k * 3 + 2, none⟩ = some (.int .i64 (F.seen.getD k default).b) := fun _ h => h.kept e2
        have l0 : ∀ W, Ext wr W → W.cell? ⟨br2, or2 + k * 3, none⟩ = some (.int .i64 (G.seen.getD k default).kind) := fun _ h => h.kept f0
        have l1 : ∀ W, Ext wr W → W.cell? ⟨br2, or2 + k * 3 + 1, none⟩ = some (.int .i64 (G.seen.getD k default).a) := fun _ h => h.kept f1
        have l2 : ∀ W, Ext wr W → W.cell? ⟨br2, or2 + k * 3 + 2, none⟩ = some (.int .i64 (G.seen.getD k default).b) := fun _ h => h.kept f2
        have hneq := fun W => Q7i (F.seen.getD k default) (G.seen.getD k default) W
        simp only [Q7j] at hneq
        clear e0 e1 e2 f0 f1 f2
        by_cases heq : F.seen.getD k default = G.seen.getD k default
        ·rw [decide_eq_true heq] at hneq
         have Heq := Lib.hid heq
         clear heq
         generalize hgx : F.seen.getD k default = x at *
         generalize hgy : G.seen.getD k default = y at *
         have Hx := Lib.hid hgx
         have Hy := Lib.hid hgy
         clear hgx hgy
         go_upto_region 13 with fail
         refine Q0t 25 (by kernel_rfl) (by kernel_rfl) ?_
         simp only [List.take_succ_cons, List.take_zero, List.drop_succ_cons, List.drop_zero]
         repeat (first | (refine Q0h ?_ ?_ (fun wc hE => ?_) ?_; (decide); rfl; (focus (go_simp; done)); go_simp) | (refine Q0b ?_ ?_ ?_; (decide); (first | rfl | (focus (go_simp; done))); apply Exists.intro; refine ⟨fun wc hE => ?_, ?_⟩; (go_simp; exact rfl); go_simp) | (refine Q0i ?_ ?_ ?_; (decide); (first | rfl | (focus (go_simp; done))); apply Exists.intro; refine ⟨fun wc hE => ?_, ?_⟩; (go_simp; (first | fail)); go_simp) | (refine Q0f ?_ ?_ ?_; (decide); (focus (go_simp; done)); go_simp))
         refine Q0g ?_
         intro wx hx
         have XE := Lib.hid (XE.out.trans hx)
         clear hx k0 k1 k2 l0 l1 l2 a0 a1 hgr
         go_wp2
         go_roundw
         case rel => exact ⟨k + 1, by omega, by omega, by go_num, fun j hj => by
          rcases Nat.lt_or_ge j k with h | h
          ·exact Hall.out j h
          ·obtain rfl : j = k := by omega
           rw [Hx.out, Hy.out]; exact Heq.out, XE.out⟩
         case measure => first | (simp [intOf]; done) | (simp [intOf]; omega)
        ·rw [decide_eq_false heq] at hneq
         have Hne := Lib.hid heq
         clear heq
         generalize hgx : F.seen.getD k default = x at *
         generalize hgy : G.seen.getD k default = y at *
         have Hx := Lib.hid hgx
         have Hy := Lib.hid hgy
         clear hgx hgy
         go_upto_region 13 with fail
         refine Q0t 25 (by kernel_rfl) (by kernel_rfl) ?_
         simp only [List.take_succ_cons, List.take_zero, List.drop_succ_cons, List.drop_zero]
         repeat (first | (refine Q0h ?_ ?_ (fun wc hE => ?_) ?_; (decide); rfl; (focus (go_simp; done)); go_simp) | (refine Q0b ?_ ?_ ?_; (decide); (first | rfl | (focus (go_simp; done))); apply Exists.intro; refine ⟨fun wc hE => ?_, ?_⟩; (go_simp; exact rfl); go_simp) | (refine Q0i ?_ ?_ ?_; (decide); (first | rfl | (focus (go_simp; done))); apply Exists.intro; refine ⟨fun wc hE => ?_, ?_⟩; (go_simp; (first | fail)); go_simp) | (refine Q0f ?_ ?_ ?_; (decide); (focus (go_simp; done)); go_simp))
         refine Q0g ?_
         intro wx hx
         have XE := Lib.hid (XE.out.trans hx)
         clear hx k0 k1 k2 l0 l1 l2 a0 a1 hgr
         go_wp2
         exact bodyPost_ret (Q2p (va := .int .i64 (k : Int)) (vb := .bool true) (vc := .int .i64 0) rfl _ rfl rfl rfl) rfl (Q18.at_ hkF hkG Hall.out (.inr (.inr (by rw [Hx.out, Hy.out]; exact Hne.out))) (.inl hF) (X.out.trans XE.out))
       ·have dG : G.seen.length ≤ k := by omega
        go_upto_region 13 with fail
        refine Q0t 25 (by kernel_rfl) (by kernel_rfl) ?_
        simp only [List.take_succ_cons, List.take_zero, List.drop_succ_cons, List.drop_zero]
        repeat (first | (refine Q0h ?_ ?_ (fun wc hE => ?_) ?_; (decide); rfl; (focus (go_simp; done)); go_simp) | (refine Q0b ?_ ?_ ?_; (decide); (first | rfl | (focus (go_simp; done))); apply Exists.intro; refine ⟨fun wc hE => ?_, ?_⟩; (go_simp; exact rfl); go_simp) | (refine Q0i ?_ ?_ ?_; (decide); (first | rfl | (focus (go_simp; done))); apply Exists.intro; refine ⟨fun wc hE => ?_, ?_⟩; (go_simp; (first | fail)); go_simp) | (refine Q0f ?_ ?_ ?_; (decide); (focus (go_simp; done)); go_simp))
        refine Q0g ?_
        intro wx hx
        have XE := Lib.hid (XE.out.trans hx)
        clear hx a0 a1 hgr
        go_wp2
        exact bodyPost_ret (Q2p (va := .int .i64 (k : Int)) (vb := .bool true) (vc := .int .i64 0) rfl _ rfl rfl rfl) rfl (Q18.at_ hkF hkG Hall.out (.inr (.inl (by omega))) (.inl hF) (X.out.trans XE.out))
      ·have dF : F.seen.length ≤ k := by omega
       go_upto_region 13 with fail
       refine Q0t 25 (by kernel_rfl) (by kernel_rfl) ?_
       simp only [List.take_succ_cons, List.take_zero, List.drop_succ_cons, List.drop_zero]
       repeat (first | (refine Q0h ?_ ?_ (fun wc hE => ?_) ?_; (decide); rfl; (focus (go_simp; done)); go_simp) | (refine Q0b ?_ ?_ ?_; (decide); (first | rfl | (focus (go_simp; done))); apply Exists.intro; refine ⟨fun wc hE => ?_, ?_⟩; (go_simp; exact rfl); go_simp) | (refine Q0i ?_ ?_ ?_; (decide); (first | rfl | (focus (go_simp; done))); apply Exists.intro; refine ⟨fun wc hE => ?_, ?_⟩; (go_simp; (first | fail)); go_simp) | (refine Q0f ?_ ?_ ?_; (decide); (focus (go_simp; done)); go_simp))
       refine Q0g ?_
       intro wx hx
       have XE := Lib.hid (XE.out.trans hx)
       clear hx a0 a1 hgr
       go_wp2
       exact bodyPost_ret (Q2p (va := .int .i64 (k : Int)) (vb := .bool true) (vc := .int .i64 0) rfl _ rfl rfl rfl) rfl (Q18.at_ hkF hkG Hall.out (.inl (by omega)) (.inr (by omega)) (X.out.trans XE.out))
     ·have dN : decide ((k : Int) < (G.seen.length : Int)) = false := by simp; omega
      go_wp2
      exact bodyPost_ret (Q2p (va := .int .i64 0) (vb := .bool false) (vc := .int .i64 0) rfl _ rfl rfl rfl) rfl (Q18.none (k := k) (by omega) (by omega) Hall.out (X.out.trans XE.out))
   ·have hN : decide (F.seen.length < G.seen.length) = false := by simp; omega
    go_wp2_with fail
    go_loopw [18, 49] (fun _ i wr => ∃ k : Nat, k ≤ F.seen.length ∧ k ≤ G.seen.length ∧ i = .int .i64 k ∧ (∀ j, j < k → F.seen.getD j default = G.seen.getD j default) ∧ Ext w4 wr) (fun _ i _ => F.seen.length - (intOf i).toNat)
    case atStart => exact ⟨0, by omega, by omega, rfl, fun j hj => by omega, Ext.refl _⟩
    case round =>
     obtain ⟨k, hkF, hkG, rfl, hall, hE⟩ := hrel
     have Hall := Lib.hid hall
     have XE := Lib.hid hE
     have a0 : ∀ W, Ext wr W → W.cell? ⟨gp + 1, 0, none⟩ = some (.slice s1 F.seen.length s2) := fun _ h => h.kept (hE.kept q0)
     have a1 : ∀ W, Ext wr W → W.cell? ⟨gp + 1, 1, none⟩ = some (.slice t1 G.seen.length t2) := fun _ h => h.kept (hE.kept q1)
     have hgr := hE.lt hgal2
     clear hall hE q0 q1 hgal2
     by_cases hlt : k < F.seen.length
     ·by_cases hF : k < F.seen.length
      ·have dF : decide ((F.seen.length : Int) ≤ (k : Int)) = false := by simp; omega
       by_cases hG : k < G.seen.length
       ·have dG : decide ((G.seen.length : Int) ≤ (k : Int)) = false := by simp; omega
        obtain ⟨e0, e1, e2⟩ := (Hrow1.out.ext XE.out).see k hF
        obtain ⟨f0, f1, f2⟩ := (Hrow2.out.ext XE.out).see k hG
        have k0 : ∀ W, Ext wr W → W.cell? ⟨br1, or1 + k * 3, none⟩ = some (.int .i64 (F.seen.getD k default).kind) := fun _ h => h.kept e0
        have k1 : ∀ W, Ext wr W → W.cell? ⟨br1, or1 + k * 3 + 1, none⟩ = some (.int .i64 (F.seen.getD k default).a) := fun _ h => h.kept e1
        have k2 : ∀ W, Ext wr W → W.cell? ⟨br1, or1 + k * 3 + 2, none⟩ = some (.int .i64 (F.seen.getD k default).b) := fun _ h => h.kept e2
        have l0 : ∀ W, Ext wr W → W.cell? ⟨br2, or2 + k * 3, none⟩ = some (.int .i64 (G.seen.getD k default).kind) := fun _ h => h.kept f0
        have l1 : ∀ W, Ext wr W → W.cell? ⟨br2, or2 + k * 3 + 1, none⟩ = some (.int .i64 (G.seen.getD k default).a) := fun _ h => h.kept f1
        have l2 : ∀ W, Ext wr W → W.cell? ⟨br2, or2 + k * 3 + 2, none⟩ = some (.int .i64 (G.seen.getD k default).b) := fun _ h => h.kept f2
        have hneq := fun W => Q7i (F.seen.getD k default) (G.seen.getD k default) W
        simp only [Q7j] at hneq
        clear e0 e1 e2 f0 f1 f2
        by_cases heq : F.seen.getD k default = G.seen.getD k default
        ·rw [decide_eq_true heq] at hneq
         have Heq := Lib.hid heq
         clear heq
         generalize hgx : F.seen.getD k default = x at *
         generalize hgy : G.seen.getD k default = y at *
         have Hx := Lib.hid hgx
         have Hy := Lib.hid hgy
         clear hgx hgy
         go_upto_region 13 with fail
         refine Q0t 25 (by kernel_rfl) (by kernel_rfl) ?_
         simp only [List.take_succ_cons, List.take_zero, List.drop_succ_cons, List.drop_zero]
         repeat (first | (refine Q0h ?_ ?_ (fun wc hE => ?_) ?_; (decide); rfl; (focus (go_simp; done)); go_simp) | (refine Q0b ?_ ?_ ?_; (decide); (first | rfl | (focus (go_simp; done))); apply Exists.intro; refine ⟨fun wc hE => ?_, ?_⟩; (go_simp; exact rfl); go_simp) | (refine Q0i ?_ ?_ ?_; (decide); (first | rfl | (focus (go_simp; done))); apply Exists.intro; refine ⟨fun wc hE => ?_, ?_⟩; (go_simp; (first | fail)); go_simp) | (refine Q0f ?_ ?_ ?_; (decide); (focus (go_simp; done)); go_simp))
         refine Q0g ?_
         intro wx hx
         have XE := Lib.hid (XE.out.trans hx)
         clear hx k0 k1 k2 l0 l1 l2 a0 a1 hgr
         go_wp2
         go_roundw
         case rel => exact ⟨k + 1, by omega, by omega, by go_num, fun j hj => by
          rcases Nat.lt_or_ge j k with h | h
          ·exact Hall.out j h
          ·obtain rfl : j = k := by omega
           rw [Hx.out, Hy.out]; exact Heq.out, XE.out⟩
         case measure => first | (simp [intOf]; done) | (simp [intOf]; omega)
        ·rw [decide_eq_false heq] at hneq
         have Hne := Lib.hid heq
         clear heq
         generalize hgx : F.seen.getD k default = x at *
         generalize hgy : G.seen.getD k default = y at *
         have Hx := Lib.hid hgx
         have Hy := Lib.hid hgy
         clear hgx hgy
         go_upto_region 13 with fail
         refine Q0t 25 (by kernel_rfl) (by kernel_rfl) ?_
         simp only [List.take_succ_cons, List.take_zero, List.drop_succ_cons, List.drop_zero]
         repeat (first | (refine Q0h ?_ ?_ (fun wc hE => ?_) ?_; (decide); rfl; (focus (go_simp; done)); go_simp) | (refine Q0b ?_ ?_ ?_; (decide); (first | rfl | (focus (go_simp; done))); apply Exists.intro; refine ⟨fun wc hE => ?_, ?_⟩; (go_simp; exact rfl); go_simp) | (refine Q0i ?_ ?_ ?_; (decide); (first | rfl | (focus (go_simp; done))); apply Exists.intro; refine ⟨fun wc hE => ?_, ?_⟩; (go_simp; (first | fail)); go_simp) | (refine Q0f ?_ ?_ ?_; (decide); (focus (go_simp; done)); go_simp))
         refine Q0g ?_
         intro wx hx
         have XE := Lib.hid (XE.out.trans hx)
         clear hx k0 k1 k2 l0 l1 l2 a0 a1 hgr
         go_wp2
         exact bodyPost_ret (Q2p (va := .int .i64 (k : Int)) (vb := .bool true) (vc := .int .i64 0) rfl _ rfl rfl rfl) rfl (Q18.at_ hkF hkG Hall.out (.inr (.inr (by rw [Hx.out, Hy.out]; exact Hne.out))) (.inl hF) (X.out.trans XE.out))
       ·have dG : G.seen.length ≤ k := by omega
        go_upto_region 13 with fail
        refine Q0t 25 (by kernel_rfl) (by kernel_rfl) ?_
        simp only [List.take_succ_cons, List.take_zero, List.drop_succ_cons, List.drop_zero]
        repeat (first | (refine Q0h ?_ ?_ (fun wc hE => ?_) ?_; (decide); rfl; (focus (go_simp; done)); go_simp) | (refine Q0b ?_ ?_ ?_; (decide); (first | rfl | (focus (go_simp; done))); apply Exists.intro; refine ⟨fun wc hE => ?_, ?_⟩; (go_simp; exact rfl); go_simp) | (refine Q0i ?_ ?_ ?_; (decide); (first | rfl | (focus (go_simp; done))); apply Exists.intro; refine ⟨fun wc hE => ?_, ?_⟩; (go_simp; (first | fail)); go_simp) | (refine Q0f ?_ ?_ ?_; (decide); (focus (go_simp; done)); go_simp))
        refine Q0g ?_
        intro wx hx
        have XE := Lib.hid (XE.out.trans hx)
        clear hx a0 a1 hgr
        go_wp2
        exact bodyPost_ret (Q2p (va := .int .i64 (k : Int)) (vb := .bool true) (vc := .int .i64 0) rfl _ rfl rfl rfl) rfl (Q18.at_ hkF hkG Hall.out (.inr (.inl (by omega))) (.inl hF) (X.out.trans XE.out))
      ·have dF : F.seen.length ≤ k := by omega
       go_upto_region 13 with fail
       refine Q0t 25 (by kernel_rfl) (by kernel_rfl) ?_
       simp only [List.take_succ_cons, List.take_zero, List.drop_succ_cons, List.drop_zero]
       repeat (first | (refine Q0h ?_ ?_ (fun wc hE => ?_) ?_; (decide); rfl; (focus (go_simp; done)); go_simp) | (refine Q0b ?_ ?_ ?_; (decide); (first | rfl | (focus (go_simp; done))); apply Exists.intro; refine ⟨fun wc hE => ?_, ?_⟩; (go_simp; exact rfl); go_simp) | (refine Q0i ?_ ?_ ?_; (decide); (first | rfl | (focus (go_simp; done))); apply Exists.intro; refine ⟨fun wc hE => ?_, ?_⟩; (go_simp; (first | fail)); go_simp) | (refine Q0f ?_ ?_ ?_; (decide); (focus (go_simp; done)); go_simp))
       refine Q0g ?_
       intro wx hx
       have XE := Lib.hid (XE.out.trans hx)
       clear hx a0 a1 hgr
       go_wp2
       exact bodyPost_ret (Q2p (va := .int .i64 (k : Int)) (vb := .bool true) (vc := .int .i64 0) rfl _ rfl rfl rfl) rfl (Q18.at_ hkF hkG Hall.out (.inl (by omega)) (.inr (by omega)) (X.out.trans XE.out))
     ·have dN : decide ((k : Int) < (F.seen.length : Int)) = false := by simp; omega
      go_wp2
      exact bodyPost_ret (Q2p (va := .int .i64 0) (vb := .bool false) (vc := .int .i64 0) rfl _ rfl rfl rfl) rfl (Q18.none (k := k) (by omega) (by omega) Hall.out (X.out.trans XE.out))
  ·have C2 := Lib.hid fun W X => Q5q rfl h2 (R2.out W X)
   have Hne := Lib.hid h2
   have hne : (Q0k p b script fuel != 0) = true := by simpa using h2
   clear R1 R2 h1 h2
   generalize Q0k p b script fuel = c at *
   go_enter Try.func7, Try.ntmps7
   go_wp2_with fail
   refine wp_loop_rounds 3 ?_
   rw [rounds_succ]
   go_wp2_with fail
   obtain ⟨W, gp, hg, hW, hx, bP, bA⟩ := Q41 w #[.slice a0 a1 a2, .slice b0 b1 b2] #[.slice none 0 0, .slice none 0 0] 25 42
   rw [hW, hg]
   have X := Lib.hid hx
   have hga : w.heap.size ≤ gp + 1 := by omega
   have Hga := Lib.hid hga
   clear hW hg hx hga
   (with_reducible refine (C1.out W X.out).mono ?_)
   clear C1
   rintro e w1 ⟨s1, s2, s3, s4, rfl, hx, hS⟩
   have X := Lib.hid (X.out.trans hx)
   have S1 := Lib.hid (Q5r hS)
   have bP := bP.ext hx
   have bA := bA.ext hx
   have q0 : w1.cell? ⟨gp + 1, 0, none⟩ = some (.slice none 0 0) ∧ w1.frozen? ⟨gp + 1, 0, none⟩ = false := ⟨by rw [bA.cell]; rfl, bA.frozen _⟩
   have hgal := bA.lt
   clear hx hS
   go_wp2_with fail
   have X := Lib.hid ((X.out.setCell (p := ⟨gp + 1, 0, none⟩) Hga.out (.slice s1 F.seen.length s2)).alloc (.cells #[.int .i64 F.fin, .int .i64 F.value, .int .i64 F.steps, .slice s1 F.seen.length s2, .slice s3 (Q0j p F.pl.words).length s4] 34))
   have S1 := Lib.hid ((S1.out.far (i := 0) (u := .slice s1 F.seen.length s2) bA).ext ((Ext.refl _).alloc (.cells #[.int .i64 F.fin, .int .i64 F.value, .int .i64 F.steps, .slice s1 F.seen.length s2, .slice s3 (Q0j p F.pl.words).length s4] 34)))
   have bP := (bP.far (p := ⟨gp + 1, 0, none⟩) (by show gp ≠ gp + 1; omega) (.slice s1 F.seen.length s2)).alloc (.cells #[.int .i64 F.fin, .int .i64 F.value, .int .i64 F.steps, .slice s1 F.seen.length s2, .slice s3 (Q0j p F.pl.words).length s4] 34)
   have bA := (bA.set_ 0 (.slice s1 F.seen.length s2)).alloc (.cells #[.int .i64 F.fin, .int .i64 F.value, .int .i64 F.steps, .slice s1 F.seen.length s2, .slice s3 (Q0j p F.pl.words).length s4] 34)
   generalize (w1.setCell ⟨gp + 1, 0, none⟩ (.slice s1 F.seen.length s2)).alloc (.cells #[.int .i64 F.fin, .int .i64 F.value, .int .i64 F.steps, .slice s1 F.seen.length s2, .slice s3 (Q0j p F.pl.words).length s4] 34) = w2 at *
   have c0 : w2.cell? ⟨gp, 0, none⟩ = some (.slice a0 a1 a2) := by rw [bP.cell]; rfl
   have c1 : w2.cell? ⟨gp, 1, none⟩ = some (.slice b0 b1 b2) := by rw [bP.cell]; rfl
   have hgal2 := bA.lt
   clear q0 hgal
   rw [rounds_succ]
   go_wp2_with fail
   (with_reducible refine (C2.out w2 X.out).mono ?_)
   clear C2
   rintro e w3 ⟨t1, t2, t3, t4, rfl, hx, hS⟩
   have X := Lib.hid (X.out.trans hx)
   clear hx hS bP bA c0 c1 hgal2
   have XX := Lib.hid (X.out.alloc (.cells #[.int .i64 0, .int .i64 0, .int .i64 0, .slice t1 0 t2, .slice t3 0 t4] 34))
   go_wp2
   exact bodyPost_ret (Q2p (va := .int .i64 0) (vb := .bool false) (vc := .int .i64 c) rfl _ rfl rfl rfl) rfl (Q18.no Hne.out XX.out)
 ·rw [if_neg h1]
  have C1 := Lib.hid fun W X => Q5q rfl h1 (R1.out W X)
  have Hne := Lib.hid h1
  have hne : (Q0k p a script fuel != 0) = true := by simpa using h1
  clear R1 R2 h1
  generalize Q0k p a script fuel = c at *
  go_enter Try.func7, Try.ntmps7
  go_wp2_with fail
  refine wp_loop_rounds 3 ?_
  rw [rounds_succ]
  go_wp2_with fail
  obtain ⟨W, gp, hg, hW, hx, bP, bA⟩ := Q41 w #[.slice a0 a1 a2, .slice b0 b1 b2] #[.slice none 0 0, .slice none 0 0] 25 42
  rw [hW, hg]
  have X := Lib.hid hx
  clear hW hg hx
  (with_reducible refine (C1.out W X.out).mono ?_)
  clear C1
  rintro e w1 ⟨s1, s2, s3, s4, rfl, hx, hS⟩
  have X := Lib.hid (X.out.trans hx)
  clear hx hS bP bA
  have XX := Lib.hid (X.out.alloc (.cells #[.int .i64 0, .int .i64 0, .int .i64 0, .slice s1 0 s2, .slice s3 0 s4] 34))
  go_wp2
  exact bodyPost_ret (Q2p (va := .int .i64 0) (vb := .bool false) (vc := .int .i64 c) rfl _ rfl rfl rfl) rfl (Q18.no Hne.out XX.out)
theorem Qdm (p : Q00) (m : List (List Int)) (script : List Int) (fuel : Int) : Q3y p m m script fuel = Q0k p m script fuel := by unfold Q3y; split <;> simp_all
theorem Q18.same {e0 : Int} {x : List LSee} {w w' : World} {e : Ending} (h : Q18 e0 x x w e w') : e = .returned (.tuple #[.int .i64 0, .bool false, .int .i64 e0]) ∧ Ext w w' := by
 obtain ⟨h1, h2⟩ := h
 obtain ⟨e1, e2⟩ := Qdg x
 rw [e1, e2, ite_self, ite_self] at h1
 exact ⟨h1, h2⟩
theorem Q9z {p : Q00} {m : List (List Int)} {script : List Int} {fuel : Int} (h : Q0k p m script fuel = 0) : mayE p m fuel = 0 ∧ Q2i script = true := by
 unfold Q0k at h
 split at h
 ·rename_i h0
  split at h
  ·rename_i h1
   exact ⟨h0, h1⟩
  ·cases h
 ·rename_i h0
  exact absurd h h0
set_option maxRecDepth 100000 in
set_option maxHeartbeats 8000000 in
theorem Qdl {p : Q00} {v : Value} {m : List (List Int)} {vm vx : Value} {script : List Int} {w : World} (hp : Q1u w v p) (hm : Q1v w vm m) (hs : Q1c w vx script) (fuel : Int) (hf : R64 fuel) :
  Calls Try.prog 4 #[v, vm, vx, .int .i64 fuel] w fun e w' => e = .returned (.bool true) ∧ Ext w w' := by
 have HP := Lib.hid hp
 have HM := Lib.hid hm
 have HS := Lib.hid hs
 have Hf := Lib.hid hf
 obtain ⟨a0, a1, a2, b0, b1, b2, rfl⟩ := Q61 hp
 clear hp hm hs
 by_cases q1 : 4000 < fuel
 ·go_enter Try.func4, Try.ntmps4
  go_wp2
  go_ret
  exact ⟨rfl, (Ext.refl _).alloc _⟩
 have d1 : decide (4000 < fuel) = false := decide_eq_false q1
 have C0 := Lib.hid fun W (X : Ext w W) => (Qdk p m m script fuel _ vm vm vx W (HP.out.ext X) (HM.out.ext X) (HM.out.ext X) (HS.out.ext X) Hf.out).mono fun e w' h => h.same
 rw [Qdm] at C0
 by_cases h0 : Q0k p m script fuel = 0
 ·obtain ⟨hm0, hsc⟩ := Q9z h0
  obtain ⟨hh, hfit, hf0, hf4⟩ := Q8f hm0
  have C1 := Lib.hid fun W (X : Ext w W) => Q5p h0 (Q4s p m script fuel _ vm vx W (HP.out.ext X) (HM.out.ext X) (HS.out.ext X) Hf.out)
  have HN := Qdq (runS p fuel.toNat (Q0p m.flatten script))
  have Hbd := Qac (script := script) hh (Qb4 HP.out) (Q8q hfit) (Q8e HM.out) (show fuel.toNat ≤ 40000 by omega)
  rw [← HN.1] at Hbd
  have Hshow : fuel = 0 ∨ (runS p fuel.toNat (Q0p m.flatten script)).seen ≠ [] := by
   by_cases h : fuel = 0
   ·exact .inl h
   ·exact .inr (Qak p _ (by show 0 < p.code.length; have := (Q4i hh).2.1; omega) rfl rfl _ (by omega))
  have Hfin := Q7p p fuel.toNat (Q0p m.flatten script) (.inl rfl)
  rw [← HN.1] at Hshow
  rw [← HN.2.1] at Hfin
  rw [h0] at C0
  clear HN
  generalize endS (runS p fuel.toNat (Q0p m.flatten script)) = G at *
  have hfin0 : 0 ≤ G.fin ∧ G.fin ≤ 2 := by rcases Hfin with h | h | h <;> omega
  obtain ⟨f0, f2⟩ := hfin0
  have hor : (fuel = 0) ∨ ((fuel == (0 : Int)) = false ∧ IntKind.i64.wrap ((G.seen.length : Int) + G.fin) = (G.seen.length : Int) + G.fin ∧ decide ((0 : Int) < (G.seen.length : Int) + G.fin) = true) := by
   by_cases hz : fuel = 0
   ·exact .inl hz
   ·have hpos : 0 < G.seen.length := by
     rcases Hshow with h | h
     ·exact absurd h hz
     ·exact List.length_pos_iff.2 h
    exact .inr ⟨by simpa using hz, Go.IntWalk.i64_in _ (by omega), by simp; omega⟩
  clear h0 hm0 hsc hh hfit Hfin q1 Hshow
  go_enter Try.func4, Try.ntmps4
  go_wp2_with fail
  obtain ⟨W, gp, hg, hW, hx, bA⟩ := Q5g w #[.slice a0 a1 a2, .slice b0 b1 b2] 25
  rw [hW, hg]
  have X := Lib.hid hx
  clear hW hg hx
  (with_reducible refine (C0.out W X.out).mono ?_)
  clear C0
  rintro e w1 ⟨rfl, hx⟩
  have X := Lib.hid (X.out.trans hx)
  have bA := bA.ext hx
  have hgpl := bA.lt
  have c0 : w1.cell? ⟨gp, 0, none⟩ = some (.slice a0 a1 a2) := by rw [bA.cell]; rfl
  have c1 : w1.cell? ⟨gp, 1, none⟩ = some (.slice b0 b1 b2) := by rw [bA.cell]; rfl
  clear hx
  go_wp2_with fail
  (with_reducible refine (C1.out w1 X.out).mono ?_)
  clear C1
  rintro e w3 ⟨t1, t2, t3, t4, rfl, hx, hS2⟩
  have X := Lib.hid (X.out.trans hx)
  have X2 := Lib.hid (X.out.alloc (.cells #[.int .i64 G.fin, .int .i64 G.value, .int .i64 G.steps, .slice t1 G.seen.length t2, .slice t3 (Q0j p G.pl.words).length t4] 34))
  clear hx hS2 bA c0 c1 hgpl
  generalize G.seen.length = L at *
  rcases hor with rfl | ⟨h1, h2, h3⟩
  all_goals
   go_wp2
   go_ret
   exact ⟨rfl, X2.out⟩
 ·have hne : (Q0k p m script fuel != 0) = true := by simpa using h0
  have heq : (Q0k p m script fuel == Q0k p m script fuel) = true := by simp
  have C1 := Lib.hid fun W (X : Ext w W) => Q5q rfl h0 (Q4s p m script fuel _ vm vx W (HP.out.ext X) (HM.out.ext X) (HS.out.ext X) Hf.out)
  generalize Q0k p m script fuel = x at *
  clear h0 q1
  go_enter Try.func4, Try.ntmps4
  go_wp2_with fail
  obtain ⟨W, gp, hg, hW, hx, bA⟩ := Q5g w #[.slice a0 a1 a2, .slice b0 b1 b2] 25
  rw [hW, hg]
  have X := Lib.hid hx
  clear hW hg hx
  (with_reducible refine (C0.out W X.out).mono ?_)
  clear C0
  rintro e w1 ⟨rfl, hx⟩
  have X := Lib.hid (X.out.trans hx)
  have bA := bA.ext hx
  have hgpl := bA.lt
  have c0 : w1.cell? ⟨gp, 0, none⟩ = some (.slice a0 a1 a2) := by rw [bA.cell]; rfl
  have c1 : w1.cell? ⟨gp, 1, none⟩ = some (.slice b0 b1 b2) := by rw [bA.cell]; rfl
  clear hx
  go_wp2_with fail
  (with_reducible refine (C1.out w1 X.out).mono ?_)
  clear C1
  rintro e w3 ⟨t1, t2, t3, t4, rfl, hx, hS2⟩
  have X := Lib.hid (X.out.trans hx)
  have X2 := Lib.hid (X.out.alloc (.cells #[.int .i64 0, .int .i64 0, .int .i64 0, .slice t1 0 t2, .slice t3 0 t4] 34))
  clear hx hS2 bA c0 c1 hgpl
  go_wp2
  go_ret
  exact ⟨rfl, X2.out⟩
end Go.Proofs.Ytceocimckkgaoaa
