/- Laid together from: Fd, FdR, FdT. -/
import Derived.Test.YtalpnmjaafcpoaaFindTellsB36
import Derived.Test.YtalpnmjaafcpoaaFindTellsB4
import Derived.Deep.DeepCutAuto
import Derived.LoopN
import Derived.Test.YtalpnmjaafcpoaaFindTellsB30

namespace Go.Proofs.Ytalpnmjaafcpoaa
open Go.ChangeShapes Go.WideShapes Go.ChangeAt Go.RowKit
set_option linter.unusedVariables false
set_option linter.unusedSimpArgs false
theorem Qhe (g : Nat) (W : World) (i : Int) (h0 : 0 ≤ i) (h1 : i < 2) :
  (Instr.indexAt 76 (.pointer (some ⟨g, 0, none⟩)) (.int .i64 i)).run Try.prog W = .ok (.pointer (some ⟨g, i.toNat, none⟩)) W := by
 have hs : (Try.prog.info? 28).map (·.size) = some 1 := by kernel_rfl
 simp [Instr.indexAt, run_underlying Try.underlying76, asIntOf, Instr.sureAddr, h0, h1]
 rw [Q36 g 0 _]
 simp
theorem Q9w (x y : LSee) (w : World) : (binOp .neq 79 (.agg #[.int .i64 x.kind, .int .i64 x.a, .int .i64 x.b]) (.agg #[.int .i64 y.kind, .int .i64 y.a, .int .i64 y.b])).run Try.prog w = .ok (.bool (!(x.kind == y.kind && x.a == y.a && x.b == y.b))) w := by
 go_simp
 by_cases h1 : x.kind = y.kind <;> by_cases h2 : x.a = y.a <;> by_cases h3 : x.b = y.b <;> simp [h1, h2, h3]
theorem Qdo (x y : LSee) (w : World) : (binOp .eql 79 (.agg #[.int .i64 x.kind, .int .i64 x.a, .int .i64 x.b]) (.agg #[.int .i64 y.kind, .int .i64 y.a, .int .i64 y.b])).run Try.prog w = .ok (.bool (x.kind == y.kind && x.a == y.a && x.b == y.b)) w := by
 go_simp
 by_cases h1 : x.kind = y.kind <;> by_cases h2 : x.a = y.a <;> by_cases h3 : x.b = y.b <;> simp [h1, h2, h3]
theorem Q7r (x y : LSee) : (x.kind == y.kind && x.a == y.a && x.b == y.b) = decide (x = y) := by
 cases x
 cases y
 simp only [LSee.mk.injEq, Bool.decide_and]
 rw [Bool.and_assoc]
 rfl
theorem Qfq (o1 o2 : Option Addr) (n1 c1 n2 c2 : Nat) (W : World) : (Instr.index 77 (.agg #[.slice o1 n1 c1, .slice o2 n2 c2]) (.int .i64 0)).run Try.prog W = .ok (.slice o1 n1 c1) W := by
 first | kernel_rfl | (simp [Instr.index]; done)
theorem Qfp (o1 o2 : Option Addr) (n1 c1 n2 c2 : Nat) (W : World) : (Instr.index 77 (.agg #[.slice o1 n1 c1, .slice o2 n2 c2]) (.int .i64 1)).run Try.prog W = .ok (.slice o2 n2 c2) W := by
 first | kernel_rfl | (simp [Instr.index]; done)
theorem Q2n {P : Program} {w : World} {a b c : Tmp} {fn : Func} {va vb vc : Value} (hr : fn.results = #[.tmp a, .tmp b, .tmp c]) (tmps : Array Value) (ha : tmps.getD a undef = va) (hb : tmps.getD b undef = vb) (hc : tmps.getD c undef = vc) : (results fn tmps).run P w = .ok (.tuple #[va, vb, vc]) w := by
 have ha' : tmps[a]?.getD undef = va := by simpa using ha
 have hb' : tmps[b]?.getD undef = vb := by simpa using hb
 have hc' : tmps[c]?.getD undef = vc := by simpa using hc
 simp [results, hr, ha', hb', hc']
def Q4x (p : Q01) (a b : List (List Int)) (script : List Int) (fuel : Int) : Int := if Q0u p a script fuel = 0 then Q0u p b script fuel else Q0u p a script fuel
def Q1j (e0 : Int) (x y : List LSee) (w : World) (e : Ending) (w' : World) : Prop :=
 e = .returned (.tuple #[.int .i64 (if e0 = 0 then Q5i x y else 0), .bool (if e0 = 0 then Q3w x y else false), .int .i64 e0]) ∧ Ext w w'
theorem Q1j.no {e0 : Int} {x y : List LSee} {w w' : World} (h : e0 ≠ 0) (hx : Ext w w') : Q1j e0 x y w (.returned (.tuple #[.int .i64 0, .bool false, .int .i64 e0])) w' := by
 unfold Q1j
 rw [if_neg h, if_neg h]
 exact ⟨rfl, hx⟩
theorem Q1j.at_ {x y : List LSee} {k : Nat} {w w' : World} (h1 : k ≤ x.length) (h2 : k ≤ y.length) (he : ∀ j, j < k → x.getD j default = y.getD j default) (h3 : k = x.length ∨ k = y.length ∨ x.getD k default ≠ y.getD k default) (h4 : k < x.length ∨ k < y.length) (hx : Ext w w') :
  Q1j 0 x y w (.returned (.tuple #[.int .i64 k, .bool true, .int .i64 0])) w' := by
 obtain ⟨e1, e2⟩ := Qhv h1 h2 he h3 h4
 unfold Q1j
 rw [if_pos rfl, if_pos rfl, e1, e2]
 exact ⟨rfl, hx⟩
theorem Q1j.none {x y : List LSee} {k : Nat} {w w' : World} (h1 : k = x.length) (h2 : k = y.length) (he : ∀ j, j < k → x.getD j default = y.getD j default) (hx : Ext w w') : Q1j 0 x y w (.returned (.tuple #[.int .i64 0, .bool false, .int .i64 0])) w' := by
 obtain ⟨e1, e2⟩ := Qhu h1 h2 he
 unfold Q1j
 rw [if_pos rfl, if_pos rfl, e1, e2]
 exact ⟨rfl, hx⟩
theorem Q6i {w : World} {a b c d e : Value} {fin value : Int} {steps : Nat} {seen : List LSee} {mem : List (List Int)} (h : Q2v w (.agg #[a, b, c, d, e]) fin value steps seen mem) : Q3h w d seen := by
 obtain ⟨vs, vm, h1, h2, -⟩ := h
 simp only [Value.agg.injEq, Array.mk.injEq, List.cons.injEq, and_true] at h1
 obtain ⟨-, -, -, rfl, -⟩ := h1
 exact h2
theorem Q3h.far {w : World} {g i : Nat} {t : TypeId} {o1 o2 : Option Addr} {n1 c1 n2 c2 : Nat} {u v : Value} {l : List LSee} (hb : Blk w g t #[.slice o1 n1 c1, .slice o2 n2 c2]) (h : Q3h w v l) : Q3h (w.setCell ⟨g, i, none⟩ u) v l := by
 obtain ⟨oa, cap, b, o, rfl, h1, h2, hrow⟩ := h
 refine ⟨oa, cap, b, o, rfl, h1, h2, hrow.at_, fun i' j hi hj => ?_⟩
 have hc := hrow.cell i' j hi hj
 have hne : b ≠ g := by
  rintro rfl
  rw [hb.cell] at hc
  have hs : ∃ x, Q1r (l.getD i' default) j = .int .i64 x := by
   rcases (show j = 0 ∨ j = 1 ∨ j = 2 by omega) with rfl | rfl | rfl <;> exact ⟨_, rfl⟩
  obtain ⟨x, hx⟩ := hs
  rw [hx] at hc
  generalize o + i' * 3 + j = q at hc
  match q, hc with
  | 0, hc => simp at hc
  | 1, hc => simp at hc
  | q + 2, hc => simp at hc
 rw [World.cell?_setCell_other _ _ _ _ (by simp [Ne.symm hne])]
 exact hc
def Q3m (p : Q01) (a : List (List Int)) (script : List Int) (fuel : Int) : List LSee := (endS (runS p fuel.toNat (Q17 a.flatten script))).seen
set_option maxRecDepth 100000 in
set_option maxHeartbeats 8000000 in
theorem Qhy (p : Q01) (a b : List (List Int)) (script : List Int) (fuel : Int) (v va vb vx : Value) (w : World) (hp : Q10 w v p) (ha : Q1w w va a) (hb : Q1w w vb b) (hs : Q1i w vx script) (hf : R64 fuel) :
  Calls Try.prog 11 #[v, va, vb, vx, .int .i64 fuel] w (Q1j (Q4x p a b script fuel) (Q3m p a script fuel) (Q3m p b script fuel) w) := by
 have HP := Lib.hid hp
 have HA := Lib.hid ha
 have HB := Lib.hid hb
 have HS := Lib.hid hs
 have Hf := Lib.hid hf
 obtain ⟨a0, a1, a2, b0, b1, b2, rfl⟩ := Q57 hp
 obtain ⟨oA, cA, rfl⟩ : ∃ o c, va = .slice o a.length c := by
  obtain ⟨oa, cap, b, o, rfl, -⟩ := ha
  exact ⟨_, _, rfl⟩
 obtain ⟨oB, cB, rfl⟩ : ∃ o c, vb = .slice o b.length c := by
  obtain ⟨oa, cap, b, o, rfl, -⟩ := hb
  exact ⟨_, _, rfl⟩
 clear hp ha hb hs hf
 unfold Q3m Q4x
 have R1 := Lib.hid fun W (X : Ext w W) => Q9m p a script fuel _ _ vx W (HP.out.ext X) (HA.out.ext X) (HS.out.ext X) Hf.out
 have R2 := Lib.hid fun W (X : Ext w W) => Q9m p b script fuel _ _ vx W (HP.out.ext X) (HB.out.ext X) (HS.out.ext X) Hf.out
 generalize endS (runS p fuel.toNat (Q17 a.flatten script)) = F at *
 generalize endS (runS p fuel.toNat (Q17 b.flatten script)) = G at *
 have hixa := Qhe
 have hp0 := Qfq
 have hp1 := Qfp
 by_cases h1 : Q0u p a script fuel = 0
 ·rw [if_pos h1]
  have C1 := Lib.hid fun W X => Q9n h1 (R1.out W X)
  by_cases h2 : Q0u p b script fuel = 0
  ·rw [h2]
   have C2 := Lib.hid fun W X => Q9n h2 (R2.out W X)
   clear R1 R2 h1 h2
   go_enter Try.func11, Try.ntmps11
   go_wp2_with fail
   refine wp_loop_rounds 3 ?_
   rw [rounds_succ]
   go_wp2_with fail
   obtain ⟨W, gp, hg, hW, hx, bP, bA⟩ := Q1y w #[.slice a0 a1 a2, .slice b0 b1 b2] #[.slice none 0 0, .slice none 0 0] 25 76
   rw [hW, hg]
   have X := Lib.hid hx
   have hga : w.heap.size ≤ gp + 1 := by omega
   have Hga := Lib.hid hga
   clear hW hg hx hga
   (with_reducible refine (C1.out W X.out).mono ?_)
   clear C1
   rintro e w1 ⟨s1, s2, s3, s4, rfl, hx, hS⟩
   have X := Lib.hid (X.out.trans hx)
   have S1 := Lib.hid (Q6i hS)
   have bP := bP.ext hx
   have bA := bA.ext hx
   have q0 : w1.cell? ⟨gp + 1, 0, none⟩ = some (.slice none 0 0) ∧ w1.frozen? ⟨gp + 1, 0, none⟩ = false := ⟨by rw [bA.cell]; rfl, bA.frozen _⟩
   have hgal := bA.lt
   clear hx hS
   go_wp2_with fail
   have X := Lib.hid ((X.out.setCell (p := ⟨gp + 1, 0, none⟩) Hga.out (.slice s1 F.seen.length s2)).alloc (.cells #[.int .i64 F.fin, .int .i64 F.value, .int .i64 F.steps, .slice s1 F.seen.length s2, .slice s3 (Q0q p F.pl.words).length s4] 30))
   have S1 := Lib.hid ((S1.out.far (i := 0) (u := .slice s1 F.seen.length s2) bA).ext ((Ext.refl _).alloc (.cells #[.int .i64 F.fin, .int .i64 F.value, .int .i64 F.steps, .slice s1 F.seen.length s2, .slice s3 (Q0q p F.pl.words).length s4] 30)))
   have bP := (bP.far (p := ⟨gp + 1, 0, none⟩) (by show gp ≠ gp + 1; omega) (.slice s1 F.seen.length s2)).alloc (.cells #[.int .i64 F.fin, .int .i64 F.value, .int .i64 F.steps, .slice s1 F.seen.length s2, .slice s3 (Q0q p F.pl.words).length s4] 30)
   have bA := (bA.set_ 0 (.slice s1 F.seen.length s2)).alloc (.cells #[.int .i64 F.fin, .int .i64 F.value, .int .i64 F.steps, .slice s1 F.seen.length s2, .slice s3 (Q0q p F.pl.words).length s4] 30)
   generalize (w1.setCell ⟨gp + 1, 0, none⟩ (.slice s1 F.seen.length s2)).alloc (.cells #[.int .i64 F.fin, .int .i64 F.value, .int .i64 F.steps, .slice s1 F.seen.length s2, .slice s3 (Q0q p F.pl.words).length s4] 30) = w2 at *
   have c0 : w2.cell? ⟨gp, 0, none⟩ = some (.slice a0 a1 a2) := by rw [bP.cell]; rfl
   have c1 : w2.cell? ⟨gp, 1, none⟩ = some (.slice b0 b1 b2) := by rw [bP.cell]; rfl
   have hgal2 := bA.lt
   clear q0 hgal
   rw [rounds_succ]
   go_wp2_with fail
   (with_reducible refine (C2.out w2 X.out).mono ?_)
   clear C2
   rintro e w3 ⟨t1, t2, t3, t4, rfl, hx, hS⟩
   have X := Lib.hid (X.out.trans hx)
   have S1 := Lib.hid (S1.out.ext hx)
   have S2 := Lib.hid (Q6i hS)
   have bA : Blk w3 (gp + 1) 76 #[.slice s1 F.seen.length s2, .slice none 0 0] := bA.ext hx
   have q1 : w3.cell? ⟨gp + 1, 1, none⟩ = some (.slice none 0 0) ∧ w3.frozen? ⟨gp + 1, 1, none⟩ = false := ⟨by rw [bA.cell]; rfl, bA.frozen _⟩
   have hgal := bA.lt
   clear hx hS bP c0 c1 hgal2
   go_wp2_with fail
   have X := Lib.hid ((X.out.setCell (p := ⟨gp + 1, 1, none⟩) Hga.out (.slice t1 G.seen.length t2)).alloc (.cells #[.int .i64 G.fin, .int .i64 G.value, .int .i64 G.steps, .slice t1 G.seen.length t2, .slice t3 (Q0q p G.pl.words).length t4] 30))
   have S1 := Lib.hid ((S1.out.far (i := 1) (u := .slice t1 G.seen.length t2) bA).ext ((Ext.refl _).alloc (.cells #[.int .i64 G.fin, .int .i64 G.value, .int .i64 G.steps, .slice t1 G.seen.length t2, .slice t3 (Q0q p G.pl.words).length t4] 30)))
   have S2 := Lib.hid ((S2.out.far (i := 1) (u := .slice t1 G.seen.length t2) bA).ext ((Ext.refl _).alloc (.cells #[.int .i64 G.fin, .int .i64 G.value, .int .i64 G.steps, .slice t1 G.seen.length t2, .slice t3 (Q0q p G.pl.words).length t4] 30)))
   have bA := (bA.set_ 1 (.slice t1 G.seen.length t2)).alloc (.cells #[.int .i64 G.fin, .int .i64 G.value, .int .i64 G.steps, .slice t1 G.seen.length t2, .slice t3 (Q0q p G.pl.words).length t4] 30)
   generalize (w3.setCell ⟨gp + 1, 1, none⟩ (.slice t1 G.seen.length t2)).alloc (.cells #[.int .i64 G.fin, .int .i64 G.value, .int .i64 G.steps, .slice t1 G.seen.length t2, .slice t3 (Q0q p G.pl.words).length t4] 30) = w4 at *
   have BA : Hid (Blk w4 (gp + 1) 76 #[.slice s1 F.seen.length s2, .slice t1 G.seen.length t2]) := Lib.hid bA
   have q0 : w4.cell? ⟨gp + 1, 0, none⟩ = some (.slice s1 F.seen.length s2) := by rw [BA.out.cell]; rfl
   have q1 : w4.cell? ⟨gp + 1, 1, none⟩ = some (.slice t1 G.seen.length t2) := by rw [BA.out.cell]; rfl
   have hgal2 := bA.lt
   clear hgal bA
   rw [rounds_succ]
   obtain ⟨or_1, cr1, br1, or1, hq1, hc1, hc2, hrow1⟩ := S1.out
   simp only [Value.slice.injEq, true_and] at hq1
   obtain ⟨rfl, rfl⟩ := hq1
   obtain ⟨or_2, cr2, br2, or2, hq2, hd1, hd2, hrow2⟩ := S2.out
   simp only [Value.slice.injEq, true_and] at hq2
   obtain ⟨rfl, rfl⟩ := hq2
   have hlen := Q0t hc1 hc2
   have hlen2 := Q0t hd1 hd2
   have hix := Q6z (cap := s2) hrow1.at_
   have hix2 := Q6z (cap := t2) hrow2.at_
   have Hrow1 := Lib.hid hrow1
   have Hrow2 := Lib.hid hrow2
   clear hrow1 hrow2 hc1 hc2 hd1 hd2 S1 S2 BA
   rcases Nat.lt_or_ge F.seen.length G.seen.length with hl | hl
   ·have hN : decide (F.seen.length < G.seen.length) = true := by simp; omega
    go_wp2_with fail
    go_loopw [18, 49] (fun _ i wr => ∃ k : Nat, k ≤ F.seen.length ∧ k ≤ G.seen.length ∧ i = .int .i64 k ∧ (∀ j, j < k → F.seen.getD j default = G.seen.getD j default) ∧ Ext w4 wr) (fun _ i _ => G.seen.length - (intOf i).toNat)
    case atStart => exact ⟨0, by omega, by omega, rfl, fun j hj => by omega, Ext.refl _⟩
    case round =>
     obtain ⟨k, hkF, hkG, rfl, hall, hE⟩ := hrel
     have Hall := Lib.hid hall
     have XE := Lib.hid hE
     have a0 : ∀ W, Ext wr W → W.cell? ⟨gp + 1, 0, none⟩ = some (.slice s1 F.seen.length s2) := fun _ h => h.kept (hE.kept q0)
     have a1 : ∀ W, Ext wr W → W.cell? ⟨gp + 1, 1, none⟩ = some (.slice t1 G.seen.length t2) := fun _ h => h.kept (hE.kept q1)
     have hgr := hE.lt hgal2
     clear hall hE q0 q1 hgal2
     by_cases hlt : k < G.seen.length
     ·by_cases hF : k < F.seen.length
      ·have dF : decide ((F.seen.length : Int) ≤ (k : Int)) = false := by simp; omega
       by_cases hG : k < G.seen.length
       ·have dG : decide ((G.seen.length : Int) ≤ (k : Int)) = false := by simp; omega
        obtain ⟨e0, e1, e2⟩ := (Hrow1.out.ext XE.out).see k hF
        obtain ⟨f0, f1, f2⟩ := (Hrow2.out.ext XE.out).see k hG
        have k0 : ∀ W, Ext wr W → W.cell? ⟨br1, or1 + k * 3, none⟩ = some (.int .i64 (F.seen.getD k default).kind) := fun _ h => h.kept e0
        have k1 : ∀ W, Ext wr W → W.cell? ⟨br1, or1 + k * 3 + 1, none⟩ = some (.int .i64 (F.seen.getD k default).a) := fun _ h => h.kept e1
        have k2 : ∀ W, Ext wr W → W.cell? ⟨br1, or1 + k * 3 + 2, none⟩ = some (.int .i64 (F.seen.getD k default).b) := fun _ h => h.kept e2
        have l0 : ∀ W, Ext wr W → W.cell? ⟨br2, or2 + k * 3, none⟩ = some (.int .i64 (G.seen.getD k default).kind) := fun _ h => h.kept f0
        have l1 : ∀ W, Ext wr W → W.cell? ⟨br2, or2 + k * 3 + 1, none⟩ = some (.int .i64 (G.seen.getD k default).a) := fun _ h => h.kept f1
        have l2 : ∀ W, Ext wr W → W.cell? ⟨br2, or2 + k * 3 + 2, none⟩ = some (.int .i64 (G.seen.getD k default).b) := fun _ h => h.kept f2
        have hneq := fun W => Q9w (F.seen.getD k default) (G.seen.getD k default) W
        simp only [Q7r] at hneq
        clear e0 e1 e2 f0 f1 f2
        by_cases heq : F.seen.getD k default = G.seen.getD k default
        ·rw [decide_eq_true heq] at hneq
         have Heq := Lib.hid heq
         clear heq
         generalize hgx : F.seen.getD k default = x at *
         generalize hgy : G.seen.getD k default = y at *
         have Hx := Lib.hid hgx
         have Hy := Lib.hid hgy
         clear hgx hgy
         go_upto_region 13 with fail
         refine Q0i 25 (by kernel_rfl) (by kernel_rfl) ?_
         simp only [List.take_succ_cons, List.take_zero, List.drop_succ_cons, List.drop_zero]
         repeat (first | (refine Q0e ?_ ?_ (fun wc hE => ?_) ?_; (decide); rfl; (focus (go_simp; done)); go_simp) | (refine Q0a ?_ ?_ ?_; (decide); (first | rfl | (focus (go_simp; done))); apply Exists.intro; refine ⟨fun wc hE => ?_, ?_⟩; (go_simp; exact rfl); go_simp) | (refine Q0f ?_ ?_ ?_; (decide); (first | rfl | (focus (go_simp; done))); apply Exists.intro; refine ⟨fun wc hE => ?_, ?_⟩; (go_simp; (first | fail)); go_simp) | (refine Q0c ?_ ?_ ?_; (decide); (focus (go_simp; done)); go_simp))
         refine Q0d ?_
         intro wx hx
         have XE := Lib.hid (XE.out.trans hx)
         clear hx k0 k1 k2 l0 l1 l2 a0 a1 hgr
         go_wp2
         go_roundw
         case rel => exact ⟨k + 1, by omega, by omega, by go_num, fun j hj => by
          rcases Nat.lt_or_ge j k with h | h
          ·exact Hall.out j h
          ·obtain rfl : j = k := by omega
           rw [Hx.out, Hy.out]; exact Heq.out, XE.out⟩
         case measure => first | (simp [intOf]; done) | (simp [intOf]; omega)
        ·rw [decide_eq_false heq] at hneq
         have Hne := Lib.hid heq
         clear heq
         generalize hgx : F.seen.getD k default = x at *
         generalize hgy : G.seen.getD k default = y at *
         have Hx := Lib.hid hgx
         have Hy := Lib.hid hgy
         clear hgx hgy
         go_upto_region 13 with fail
         refine Q0i 25 (by kernel_rfl) (by kernel_rfl) ?_
         simp only [List.take_succ_cons, List.take_zero, List.drop_succ_cons, List.drop_zero]
         repeat (first | (refine Q0e ?_ ?_ (fun wc hE => ?_) ?_; (decide); rfl; (focus (go_simp; done)); go_simp) | (refine Q0a ?_ ?_ ?_; (decide); (first | rfl | (focus (go_simp; done))); apply Exists.intro; refine ⟨fun wc hE => ?_, ?_⟩; (go_simp; exact rfl); go_simp) | (refine Q0f ?_ ?_ ?_; (decide); (first | rfl | (focus (go_simp; done))); apply Exists.intro; refine ⟨fun wc hE => ?_, ?_⟩; (go_simp; (first | fail)); go_simp) | (refine Q0c ?_ ?_ ?_; (decide); (focus (go_simp; done)); go_simp))
         refine Q0d ?_
         intro wx hx
         have XE := Lib.hid (XE.out.trans hx)
         clear hx k0 k1 k2 l0 l1 l2 a0 a1 hgr
         go_wp2
         exact bodyPost_ret (Q2n (va := .int .i64 (k : Int)) (vb := .bool true) (vc := .int .i64 0) rfl _ rfl rfl rfl) rfl (Q1j.at_ hkF hkG Hall.out (.inr (.inr (by rw [Hx.out, Hy.out]; exact Hne.out))) (.inl hF) (X.out.trans XE.out))
       ·have dG : G.seen.length ≤ k := by omega
        go_upto_region 13 with fail
        refine Q0i 25 (by kernel_rfl) (by kernel_rfl) ?_
        simp only [List.take_succ_cons, List.take_zero, List.drop_succ_cons, List.drop_zero]
        repeat (first | (refine Q0e ?_ ?_ (fun wc hE => ?_) ?_; (decide); rfl; (focus (go_simp; done)); go_simp) | (refine Q0a ?_ ?_ ?_; (decide); (first | rfl | (focus (go_simp; done))); apply Exists.intro; refine ⟨fun wc hE => ?_, ?_⟩; (go_simp; exact rfl); go_simp) | (refine Q0f ?_ ?_ ?_; (decide); (first | rfl | (focus (go_simp; done))); apply Exists.intro; refine ⟨fun wc hE => ?_, ?_⟩; (go_simp; (first | fail)); go_simp) | (refine Q0c ?_ ?_ ?_; (decide); (focus (go_simp; done)); go_simp))
        refine Q0d ?_
        intro wx hx
        have XE := Lib.hid (XE.out.trans hx)
        clear hx a0 a1 hgr
        go_wp2
        exact bodyPost_ret (Q2n (va := .int .i64 (k : Int)) (vb := .bool true) (vc := .int .i64 0) rfl _ rfl rfl rfl) rfl (Q1j.at_ hkF hkG Hall.out (.inr (.inl (by omega))) (.inl hF) (X.out.trans XE.out))
      ·have dF : F.seen.length ≤ k := by omega
       go_upto_region 13 with fail
       refine Q0i 25 (by kernel_rfl) (by kernel_rfl) ?_
       simp only [List.take_succ_cons, List.take_zero, List.drop_succ_cons, List.drop_zero]
       repeat (first | (refine Q0e ?_ ?_ (fun wc hE => ?_) ?_; (decide); rfl; (focus (go_simp; done)); go_simp) | (refine Q0a ?_ ?_ ?_; (decide); (first | rfl | (focus (go_simp; done))); apply Exists.intro; refine ⟨fun wc hE => ?_, ?_⟩; (go_simp; exact rfl); go_simp) | (refine Q0f ?_ ?_ ?_; (decide); (first | rfl | (focus (go_simp; done))); apply Exists.intro; refine ⟨fun wc hE => ?_, ?_⟩; (go_simp; (first | fail)); go_simp) | (refine Q0c ?_ ?_ ?_; (decide); (focus (go_simp; done)); go_simp))
       refine Q0d ?_
       intro wx hx
       have XE := Lib.hid (XE.out.trans hx)
       clear hx a0 a1 hgr
       go_wp2
       exact bodyPost_ret (Q2n (va := .int .i64 (k : Int)) (vb := .bool true) (vc := .int .i64 0) rfl _ rfl rfl rfl) rfl (Q1j.at_ hkF hkG Hall.out (.inl (by omega)) (.inr (by omega)) (X.out.trans XE.out))
     ·have dN : decide ((k : Int) < (G.seen.length : Int)) = false := by simp; omega
      go_wp2
      exact bodyPost_ret (Q2n (va := .int .i64 0) (vb := .bool false) (vc := .int .i64 0) rfl _ rfl rfl rfl) rfl (Q1j.none (k := k) (by omega) (by omega) Hall.out (X.out.trans XE.out))
   ·have hN : decide (F.seen.length < G.seen.length) = false := by simp; omega
    go_wp2_with fail
    go_loopw [18, 49] (fun _ i wr => ∃ k : Nat, k ≤ F.seen.length ∧ k ≤ G.seen.length ∧ i = .int .i64 k ∧ (∀ j, j < k → F.seen.getD j default = G.seen.getD j default) ∧ Ext w4 wr) (fun _ i _ => F.seen.length - (intOf i).toNat)
    case atStart => exact ⟨0, by omega, by omega, rfl, fun j hj => by omega, Ext.refl _⟩
    case round =>
     obtain ⟨k, hkF, hkG, rfl, hall, hE⟩ := hrel
     have Hall := Lib.hid hall
     have XE := Lib.hid hE
     have a0 : ∀ W, Ext wr W → W.cell? ⟨gp + 1, 0, none⟩ = some (.slice s1 F.seen.length s2) := fun _ h => h.kept (hE.kept q0)
     have a1 : ∀ W, Ext wr W → W.cell? ⟨gp + 1, 1, none⟩ = some (.slice t1 G.seen.length t2) := fun _ h => h.kept (hE.kept q1)
     have hgr := hE.lt hgal2
     clear hall hE q0 q1 hgal2
     by_cases hlt : k < F.seen.length
     ·by_cases hF : k < F.seen.length
      ·have dF : decide ((F.seen.length : Int) ≤ (k : Int)) = false := by simp; omega
       by_cases hG : k < G.seen.length
       ·have dG : decide ((G.seen.length : Int) ≤ (k : Int)) = false := by simp; omega
        obtain ⟨e0, e1, e2⟩ := (Hrow1.out.ext XE.out).see k hF
        obtain ⟨f0, f1, f2⟩ := (Hrow2.out.ext XE.out).see k hG
        have k0 : ∀ W, Ext wr W → W.cell? ⟨br1, or1 + k * 3, none⟩ = some (.int .i64 (F.seen.getD k default).kind) := fun _ h => h.kept e0
        have k1 : ∀ W, Ext wr W → W.cell? ⟨br1, or1 + k * 3 + 1, none⟩ = some (.int .i64 (F.seen.getD k default).a) := fun _ h => h.kept e1
        have k2 : ∀ W, Ext wr W → W.cell? ⟨br1, or1 + k * 3 + 2, none⟩ = some (.int .i64 (F.seen.getD k default).b) := fun _ h => h.kept e2
        have l0 : ∀ W, Ext wr W → W.cell? ⟨br2, or2 + k * 3, none⟩ = some (.int .i64 (G.seen.getD k default).kind) := fun _ h => h.kept f0
        have l1 : ∀ W, Ext wr W → W.cell? ⟨br2, or2 + k * 3 + 1, none⟩ = some (.int .i64 (G.seen.getD k default).a) := fun _ h => h.kept f1
        have l2 : ∀ W, Ext wr W → W.cell? ⟨br2, or2 + k * 3 + 2, none⟩ = some (.int .i64 (G.seen.getD k default).b) := fun _ h => h.kept f2
        have hneq := fun W => Q9w (F.seen.getD k default) (G.seen.getD k default) W
        simp only [Q7r] at hneq
        clear e0 e1 e2 f0 f1 f2
        by_cases heq : F.seen.getD k default = G.seen.getD k default
        ·rw [decide_eq_true heq] at hneq
         have Heq := Lib.hid heq
         clear heq
         generalize hgx : F.seen.getD k default = x at *
         generalize hgy : G.seen.getD k default = y at *
         have Hx := Lib.hid hgx
         have Hy := Lib.hid hgy
         clear hgx hgy
         go_upto_region 13 with fail
         refine Q0i 25 (by kernel_rfl) (by kernel_rfl) ?_
         simp only [List.take_succ_cons, List.take_zero, List.drop_succ_cons, List.drop_zero]
         repeat (first | (refine Q0e ?_ ?_ (fun wc hE => ?_) ?_; (decide); rfl; (focus (go_simp; done)); go_simp) | (refine Q0a ?_ ?_ ?_; (decide); (first | rfl | (focus (go_simp; done))); apply Exists.intro; refine ⟨fun wc hE => ?_, ?_⟩; (go_simp; exact rfl); go_simp) | (refine Q0f ?_ ?_ ?_; (decide); (first | rfl | (focus (go_simp; done))); apply Exists.intro; refine ⟨fun wc hE => ?_, ?_⟩; (go_simp; (first | fail)); go_simp) | (refine Q0c ?_ ?_ ?_; (decide); (focus (go_simp; done)); go_simp))
         refine Q0d ?_
         intro wx hx
         have XE := Lib.hid (XE.out.trans hx)
         clear hx k0 k1 k2 l0 l1 l2 a0 a1 hgr
         go_wp2
         go_roundw
         case rel => exact ⟨k + 1, by omega, by omega, by go_num, fun j hj => by
          rcases Nat.lt_or_ge j k with h | h
          ·exact Hall.out j h
          ·obtain rfl : j = k := by omega
           rw [Hx.out, Hy.out]; exact Heq.out, XE.out⟩
         case measure => first | (simp [intOf]; done) | (simp [intOf]; omega)
        ·rw [decide_eq_false heq] at hneq
         have Hne := Lib.hid heq
         clear heq
         generalize hgx : F.seen.getD k default = x at *
         generalize hgy : G.seen.getD k default = y at *
         have Hx := Lib.hid hgx
         have Hy := Lib.hid hgy
         clear hgx hgy
         go_upto_region 13 with fail
         refine Q0i 25 (by kernel_rfl) (by kernel_rfl) ?_
         simp only [List.take_succ_cons, List.take_zero, List.drop_succ_cons, List.drop_zero]
         repeat (first | (refine Q0e ?_ ?_ (fun wc hE => ?_) ?_; (decide); rfl; (focus (go_simp; done)); go_simp) | (refine Q0a ?_ ?_ ?_; (decide); (first | rfl | (focus (go_simp; done))); apply Exists.intro; refine ⟨fun wc hE => ?_, ?_⟩; (go_simp; exact rfl); go_simp) | (refine Q0f ?_ ?_ ?_; (decide); (first | rfl | (focus (go_simp; done))); apply Exists.intro; refine ⟨fun wc hE => ?_, ?_⟩; (go_simp; (first | fail)); go_simp) | (refine Q0c ?_ ?_ ?_; (decide); (focus (go_simp; done)); go_simp))
         refine Q0d ?_
         intro wx hx
         have XE := Lib.hid (XE.out.trans hx)
         clear hx k0 k1 k2 l0 l1 l2 a0 a1 hgr
         go_wp2
         exact bodyPost_ret (Q2n (va := .int .i64 (k : Int)) (vb := .bool true) (vc := .int .i64 0) rfl _ rfl rfl rfl) rfl (Q1j.at_ hkF hkG Hall.out (.inr (.inr (by rw [Hx.out, Hy.out]; exact Hne.out))) (.inl hF) (X.out.trans XE.out))
       ·have dG : G.seen.length ≤ k := by omega
        go_upto_region 13 with fail
        refine Q0i 25 (by kernel_rfl) (by kernel_rfl) ?_
        simp only [List.take_succ_cons, List.take_zero, List.drop_succ_cons, List.drop_zero]
        repeat (first | (refine Q0e ?_ ?_ (fun wc hE => ?_) ?_; (decide); rfl; (focus (go_simp; done)); go_simp) | (refine Q0a ?_ ?_ ?_; (decide); (first | rfl | (focus (go_simp; done))); apply Exists.intro; refine ⟨fun wc hE => ?_, ?_⟩; (go_simp; exact rfl); go_simp) | (refine Q0f ?_ ?_ ?_; (decide); (first | rfl | (focus (go_simp; done))); apply Exists.intro; refine ⟨fun wc hE => ?_, ?_⟩; (go_simp; (first | fail)); go_simp) | (refine Q0c ?_ ?_ ?_; (decide); (focus (go_simp; done)); go_simp))
        refine Q0d ?_
        intro wx hx
        have XE := Lib.hid (XE.out.trans hx)
        clear hx a0 a1 hgr
        go_wp2
        exact bodyPost_ret (Q2n (va := .int .i64 (k : Int)) (vb := .bool true) (vc := .int .i64 0) rfl _ rfl rfl rfl) rfl (Q1j.at_ hkF hkG Hall.out (.inr (.inl (by omega))) (.inl hF) (X.out.trans XE.out))
      ·have dF : F.seen.length ≤ k := by omega
       go_upto_region 13 with fail
       refine Q0i 25 (by kernel_rfl) (by kernel_rfl) ?_
       simp only [List.take_succ_cons, List.take_zero, List.drop_succ_cons, List.drop_zero]
       repeat (first | (refine Q0e ?_ ?_ (fun wc hE => ?_) ?_; (decide); rfl; (focus (go_simp; done)); go_simp) | (refine Q0a ?_ ?_ ?_; (decide); (first | rfl | (focus (go_simp; done))); apply Exists.intro; refine ⟨fun wc hE => ?_, ?_⟩; (go_simp; exact rfl); go_simp) | (refine Q0f ?_ ?_ ?_; (decide); (first | rfl | (focus (go_simp; done))); apply Exists.intro; refine ⟨fun wc hE => ?_, ?_⟩; (go_simp; (first | fail)); go_simp) | (refine Q0c ?_ ?_ ?_; (decide); (focus (go_simp; done)); go_simp))
       refine Q0d ?_
       intro wx hx
       have XE := Lib.hid (XE.out.trans hx)
       clear hx a0 a1 hgr
       go_wp2
       exact bodyPost_ret (Q2n (va := .int .i64 (k : Int)) (vb := .bool true) (vc := .int .i64 0) rfl _ rfl rfl rfl) rfl (Q1j.at_ hkF hkG Hall.out (.inl (by omega)) (.inr (by omega)) (X.out.trans XE.out))
     ·have dN : decide ((k : Int) < (F.seen.length : Int)) = false := by simp; omega
      go_wp2
      exact bodyPost_ret (Q2n (va := .int .i64 0) (vb := .bool false) (vc := .int .i64 0) rfl _ rfl rfl rfl) rfl (Q1j.none (k := k) (by omega) (by omega) Hall.out (X.out.trans XE.out))
  ·have C2 := Lib.hid fun W X => Q9o rfl h2 (R2.out W X)
   have Hne := Lib.hid h2
   have hne : (Q0u p b script fuel != 0) = true := by simpa using h2
   clear R1 R2 h1 h2
   generalize Q0u p b script fuel = c at *
   go_enter Try.func11, Try.ntmps11
   go_wp2_with fail
   refine wp_loop_rounds 3 ?_
   rw [rounds_succ]
   go_wp2_with fail
   obtain ⟨W, gp, hg, hW, hx, bP, bA⟩ := Q1y w #[.slice a0 a1 a2, .slice b0 b1 b2] #[.slice none 0 0, .slice none 0 0] 25 76
   rw [hW, hg]
   have X := Lib.hid hx
   have hga : w.heap.size ≤ gp + 1 := by omega
   have Hga := Lib.hid hga
   clear hW hg hx hga
   (with_reducible refine (C1.out W X.out).mono ?_)
   clear C1
   rintro e w1 ⟨s1, s2, s3, s4, rfl, hx, hS⟩
   have X := Lib.hid (X.out.trans hx)
   have S1 := Lib.hid (Q6i hS)
   have bP := bP.ext hx
   have bA := bA.ext hx
   have q0 : w1.cell? ⟨gp + 1, 0, none⟩ = some (.slice none 0 0) ∧ w1.frozen? ⟨gp + 1, 0, none⟩ = false := ⟨by rw [bA.cell]; rfl, bA.frozen _⟩
   have hgal := bA.lt
   clear hx hS
   go_wp2_with fail
   have X := Lib.hid ((X.out.setCell (p := ⟨gp + 1, 0, none⟩) Hga.out (.slice s1 F.seen.length s2)).alloc (.cells #[.int .i64 F.fin, .int .i64 F.value, .int .i64 F.steps, .slice s1 F.seen.length s2, .slice s3 (Q0q p F.pl.words).length s4] 30))
   have S1 := Lib.hid ((S1.out.far (i := 0) (u := .slice s1 F.seen.length s2) bA).ext ((Ext.refl _).alloc (.cells #[.int .i64 F.fin, .int .i64 F.value, .int .i64 F.steps, .slice s1 F.seen.length s2, .slice s3 (Q0q p F.pl.words).length s4] 30)))
   have bP := (bP.far (p := ⟨gp + 1, 0, none⟩) (by show gp ≠ gp + 1; omega) (.slice s1 F.seen.length s2)).alloc (.cells #[.int .i64 F.fin, .int .i64 F.value, .int .i64 F.steps, .slice s1 F.seen.length s2, .slice s3 (Q0q p F.pl.words).length s4] 30)
   have bA := (bA.set_ 0 (.slice s1 F.seen.length s2)).alloc (.cells #[.int .i64 F.fin, .int .i64 F.value, .int .i64 F.steps, .slice s1 F.seen.length s2, .slice s3 (Q0q p F.pl.words).length s4] 30)
   generalize (w1.setCell ⟨gp + 1, 0, none⟩ (.slice s1 F.seen.length s2)).alloc (.cells #[.int .i64 F.fin, .int .i64 F.value, .int .i64 F.steps, .slice s1 F.seen.length s2, .slice s3 (Q0q p F.pl.words).length s4] 30) = w2 at *
   have c0 : w2.cell? ⟨gp, 0, none⟩ = some (.slice a0 a1 a2) := by rw [bP.cell]; rfl
   have c1 : w2.cell? ⟨gp, 1, none⟩ = some (.slice b0 b1 b2) := by rw [bP.cell]; rfl
   have hgal2 := bA.lt
   clear q0 hgal
   rw [rounds_succ]
   go_wp2_with fail
   (with_reducible refine (C2.out w2 X.out).mono ?_)
   clear C2
   rintro e w3 ⟨t1, t2, t3, t4, rfl, hx, hS⟩
   have X := Lib.hid (X.out.trans hx)
   clear hx hS bP bA c0 c1 hgal2
   have XX := Lib.hid (X.out.alloc (.cells #[.int .i64 0, .int .i64 0, .int .i64 0, .slice t1 0 t2, .slice t3 0 t4] 30))
   go_wp2
   exact bodyPost_ret (Q2n (va := .int .i64 0) (vb := .bool false) (vc := .int .i64 c) rfl _ rfl rfl rfl) rfl (Q1j.no Hne.out XX.out)
 ·rw [if_neg h1]
  have C1 := Lib.hid fun W X => Q9o rfl h1 (R1.out W X)
  have Hne := Lib.hid h1
  have hne : (Q0u p a script fuel != 0) = true := by simpa using h1
  clear R1 R2 h1
  generalize Q0u p a script fuel = c at *
  go_enter Try.func11, Try.ntmps11
  go_wp2_with fail
  refine wp_loop_rounds 3 ?_
  rw [rounds_succ]
  go_wp2_with fail
  obtain ⟨W, gp, hg, hW, hx, bP, bA⟩ := Q1y w #[.slice a0 a1 a2, .slice b0 b1 b2] #[.slice none 0 0, .slice none 0 0] 25 76
  rw [hW, hg]
  have X := Lib.hid hx
  clear hW hg hx
  (with_reducible refine (C1.out W X.out).mono ?_)
  clear C1
  rintro e w1 ⟨s1, s2, s3, s4, rfl, hx, hS⟩
  have X := Lib.hid (X.out.trans hx)
  clear hx hS bP bA
  have XX := Lib.hid (X.out.alloc (.cells #[.int .i64 0, .int .i64 0, .int .i64 0, .slice s1 0 s2, .slice s3 0 s4] 30))
  go_wp2
  exact bodyPost_ret (Q2n (va := .int .i64 0) (vb := .bool false) (vc := .int .i64 c) rfl _ rfl rfl rfl) rfl (Q1j.no Hne.out XX.out)
set_option maxHeartbeats 4000000 in
theorem Q95 (p : Q01) (m : List (List Int)) (script : List Int) (fuel : Int) (v vm vx : Value) (w : World) (hp : Q10 w v p) (hm : Q1w w vm m) (hs : Q1i w vx script) (hf : R64 fuel) :
  Calls Try.prog 30 #[v, vm, vx, .int .i64 fuel] w fun e w' => e = .returned (.int .i64 (Q0u p m script fuel)) ∧ Ext w w' := by
 have HP := Lib.hid hp
 have HM := Lib.hid hm
 have HS := Lib.hid hs
 have Hf := Lib.hid hf
 obtain ⟨a0, a1, a2, b0, b1, b2, rfl⟩ := Q57 hp
 clear hp hm hs hf
 have C0 := Lib.hid fun W (X : Ext w W) => Qbv p m fuel _ vm W (HP.out.ext X) (HM.out.ext X) Hf.out
 have C1 := Lib.hid fun W (X : Ext w W) => Qek script vx W (HS.out.ext X)
 by_cases h0 : mayE p m fuel = 0
 ·rw [h0] at C0
  cases hsc : Q2c script
  ·have HE := Lib.hid (Q7n h0 hsc)
   rw [hsc] at C1
   clear h0 hsc
   go_enter Try.func30, Try.ntmps30
   go_wp2_with fail
   obtain ⟨W, gp, hg, hW, hx, bA⟩ := Q34 w #[.slice a0 a1 a2, .slice b0 b1 b2] 25
   rw [hW, hg]
   have X := Lib.hid hx
   clear hW hg hx
   (with_reducible refine (C0.out W X.out).mono ?_)
   clear C0
   rintro e w1 ⟨rfl, hx⟩
   have X := Lib.hid (X.out.trans hx)
   clear hx bA
   go_wp2_with fail
   (with_reducible refine (C1.out w1 X.out).mono ?_)
   clear C1
   rintro e w2 ⟨rfl, hx⟩
   have X := Lib.hid (X.out.trans hx)
   clear hx
   go_wp2
   go_ret
   rw [HE.out]
   exact ⟨rfl, X.out⟩
  ·have HE := Lib.hid (Q9p h0 hsc)
   rw [hsc] at C1
   clear h0 hsc
   go_enter Try.func30, Try.ntmps30
   go_wp2_with fail
   obtain ⟨W, gp, hg, hW, hx, bA⟩ := Q34 w #[.slice a0 a1 a2, .slice b0 b1 b2] 25
   rw [hW, hg]
   have X := Lib.hid hx
   clear hW hg hx
   (with_reducible refine (C0.out W X.out).mono ?_)
   clear C0
   rintro e w1 ⟨rfl, hx⟩
   have X := Lib.hid (X.out.trans hx)
   clear hx bA
   go_wp2_with fail
   (with_reducible refine (C1.out w1 X.out).mono ?_)
   clear C1
   rintro e w2 ⟨rfl, hx⟩
   have X := Lib.hid (X.out.trans hx)
   clear hx
   go_wp2
   go_ret
   rw [HE.out]
   exact ⟨rfl, X.out⟩
 ·have HE := Lib.hid (Q9q (script := script) h0)
  have hz : (mayE p m fuel == (0 : Int)) = false := by simpa using h0
  generalize mayE p m fuel = x at *
  clear h0
  go_enter Try.func30, Try.ntmps30
  go_wp2_with fail
  obtain ⟨W, gp, hg, hW, hx, bA⟩ := Q34 w #[.slice a0 a1 a2, .slice b0 b1 b2] 25
  rw [hW, hg]
  have X := Lib.hid hx
  clear hW hg hx
  (with_reducible refine (C0.out W X.out).mono ?_)
  clear C0
  rintro e w1 ⟨rfl, hx⟩
  have X := Lib.hid (X.out.trans hx)
  clear hx bA
  go_wp2
  go_ret
  rw [HE.out]
  exact ⟨rfl, X.out⟩
theorem Qao {p : Q01} {F : Spc} {w : World} {v vm vx : Value} {fuel : Int} (C : Calls Try.prog 10 #[v, vm, vx, .int .i64 fuel] w (Qbu p F w)) :
  Calls Try.prog 10 #[v, vm, vx, .int .i64 fuel] w fun e w' => ∃ s1 s2 s3 s4, e = .returned (.agg #[.int .i64 F.fin, .int .i64 F.value, .int .i64 F.steps, .slice s1 F.seen.length s2, .slice s3 (Q0q p F.pl.words).length s4]) ∧ Ext w w' ∧
   Q3h w' (.slice s1 F.seen.length s2) F.seen :=
 C.mono fun e w' ⟨u, h1, h2, h3⟩ => by
  obtain ⟨s1, s2, s3, s4, rfl⟩ := Q7o h2
  exact ⟨s1, s2, s3, s4, h1, h3, Q6i h2⟩
theorem specE_zero' {p : Q01} {m : List (List Int)} {script : List Int} {fuel : Int} (h : Q0u p m script fuel = 0) : mayE p m fuel = 0 := by
 unfold Q0u at h
 split at h
 ·assumption
 ·rename_i h0
  exact absurd h h0
set_option maxRecDepth 100000 in
set_option maxHeartbeats 8000000 in
theorem Qf4 (p : Q01) (a b : List (List Int)) (script : List Int) (fuel : Int) (v va vb vx : Value) (w : World) (hp : Q10 w v p) (ha : Q1w w va a) (hb : Q1w w vb b) (hs : Q1i w vx script) (hf : R64 fuel) :
  Calls Try.prog 12 #[v, va, vb, vx, .int .i64 fuel] w (Q1j (Q4x p a b script fuel) (Q3m p a script fuel) (Q3m p b script fuel) w) := by
 have HP := Lib.hid hp
 have HA := Lib.hid ha
 have HB := Lib.hid hb
 have HS := Lib.hid hs
 have Hf := Lib.hid hf
 obtain ⟨a0, a1, a2, b0, b1, b2, rfl⟩ := Q57 hp
 clear hp ha hb hs hf
 unfold Q3m Q4x
 have W1 := Lib.hid fun W (X : Ext w W) => Q95 p a script fuel _ va vx W (HP.out.ext X) (HA.out.ext X) (HS.out.ext X) Hf.out
 have W2 := Lib.hid fun W (X : Ext w W) => Q95 p b script fuel _ vb vx W (HP.out.ext X) (HB.out.ext X) (HS.out.ext X) Hf.out
 by_cases h1 : Q0u p a script fuel = 0
 ·rw [if_pos h1]
  rw [h1] at W1
  by_cases h2 : Q0u p b script fuel = 0
  ·rw [h2]
   rw [h2] at W2
   obtain ⟨hh, hfit1, hf0, hf4⟩ := Q8a (specE_zero' h1)
   obtain ⟨-, hfit2, -, -⟩ := Q8a (specE_zero' h2)
   have C1 := Lib.hid fun W (X : Ext w W) => Qao (Qaj p a script fuel _ va vx W (HP.out.ext X) (HA.out.ext X) (HS.out.ext X) hh hfit1 hf4 Hf.out)
   have C2 := Lib.hid fun W (X : Ext w W) => Qao (Qaj p b script fuel _ vb vx W (HP.out.ext X) (HB.out.ext X) (HS.out.ext X) hh hfit2 hf4 Hf.out)
   generalize endS (runS p fuel.toNat (Q17 a.flatten script)) = F at *
   generalize endS (runS p fuel.toNat (Q17 b.flatten script)) = G at *
   clear h1 h2 hh hfit1 hfit2 hf0 hf4
   go_enter Try.func12, Try.ntmps12
   go_wp2_with fail
   obtain ⟨W, gp, hg, hW, hx, bP⟩ := Q34 w #[.slice a0 a1 a2, .slice b0 b1 b2] 25
   rw [hW, hg]
   have X := Lib.hid hx
   clear hW hg hx
   (with_reducible refine (W1.out W X.out).mono ?_)
   clear W1
   rintro e w1 ⟨rfl, hx⟩
   have X := Lib.hid (X.out.trans hx)
   have bP := bP.ext hx
   have c0 : w1.cell? ⟨gp, 0, none⟩ = some (.slice a0 a1 a2) := by rw [bP.cell]; rfl
   have c1 : w1.cell? ⟨gp, 1, none⟩ = some (.slice b0 b1 b2) := by rw [bP.cell]; rfl
   have hgp := bP.lt
   clear hx
   go_wp2_with fail
   (with_reducible refine (W2.out w1 X.out).mono ?_)
   clear W2
   rintro e w2 ⟨rfl, hx⟩
   have X := Lib.hid (X.out.trans hx)
   have bP := bP.ext hx
   have c0 := hx.kept c0
   have c1 := hx.kept c1
   have hgp := bP.lt
   clear hx
   go_wp2_with fail
   (with_reducible refine (C1.out w2 X.out).mono ?_)
   clear C1
   rintro e w3 ⟨s1, s2, s3, s4, rfl, hx, S1⟩
   have X := Lib.hid (X.out.trans hx)
   have bP := bP.ext hx
   have c0 := hx.kept c0
   have c1 := hx.kept c1
   have hgp := bP.lt
   have S1 := Lib.hid S1
   clear hx
   go_wp2_with fail
   obtain ⟨w4, gx, hg, hW, hx, bX⟩ := Q34 w3 #[.int .i64 F.fin, .int .i64 F.value, .int .i64 F.steps, .slice s1 F.seen.length s2, .slice s3 (Q0q p F.pl.words).length s4] 30
   rw [hW, hg]
   have X := Lib.hid (X.out.trans hx)
   have S1 := Lib.hid (S1.out.ext hx)
   clear hW hg hx c0 c1 bP hgp
   (with_reducible refine (C2.out w4 X.out).mono ?_)
   clear C2
   rintro e w5 ⟨t1, t2, t3, t4, rfl, hx, S2⟩
   have X := Lib.hid (X.out.trans hx)
   have S1 := Lib.hid (S1.out.ext hx)
   have S2 := Lib.hid S2
   have bX := bX.ext hx
   have hgx := bX.lt
   clear hx
   go_wp2_with fail
   obtain ⟨or_1, cr1, br1, or1, hq1, hc1, hc2, hrow1⟩ := S1.out
   simp only [Value.slice.injEq, true_and] at hq1
   obtain ⟨rfl, rfl⟩ := hq1
   obtain ⟨or_2, cr2, br2, or2, hq2, hd1, hd2, hrow2⟩ := S2.out
   simp only [Value.slice.injEq, true_and] at hq2
   obtain ⟨rfl, rfl⟩ := hq2
   obtain ⟨w6, gy, hg, hW, hx, bY⟩ := Q34 w5 #[.int .i64 G.fin, .int .i64 G.value, .int .i64 G.steps, .slice t1 G.seen.length t2, .slice t3 (Q0q p G.pl.words).length t4] 30
   rw [hW, hg]
   have X := Lib.hid (X.out.trans hx)
   have bX := bX.ext hx
   have hlen := Q0t hc1 hc2
   have hlen2 := Q0t hd1 hd2
   have hix := Q6z (cap := s2) hrow1.at_
   have hix2 := Q6z (cap := t2) hrow2.at_
   have Hrow1 := Lib.hid (hrow1.ext hx)
   have Hrow2 := Lib.hid (hrow2.ext hx)
   have q0 : w6.cell? ⟨gx, 3, none⟩ = some (.slice s1 F.seen.length s2) := by rw [bX.cell]; rfl
   have q1 : w6.cell? ⟨gy, 3, none⟩ = some (.slice t1 G.seen.length t2) := by rw [bY.cell]; rfl
   have hgx := bX.lt
   have hgy := bY.lt
   clear hrow1 hrow2 hc1 hc2 hd1 hd2 S1 S2 bX bY hW hg hx
   go_loopw [16] (fun i wr => ∃ k : Nat, k ≤ F.seen.length ∧ k ≤ G.seen.length ∧ i = .int .i64 k ∧ (∀ j, j < k → F.seen.getD j default = G.seen.getD j default) ∧ Ext w6 wr) (fun i _ => F.seen.length - (intOf i).toNat)
   case atStart => exact ⟨0, by omega, by omega, rfl, fun j hj => by omega, Ext.refl _⟩
   case round =>
    obtain ⟨k, hkF, hkG, rfl, hall, hE⟩ := hrel
    have Hall := Lib.hid hall
    have XE := Lib.hid hE
    have a0 : ∀ W, Ext wr W → W.cell? ⟨gx, 3, none⟩ = some (.slice s1 F.seen.length s2) := fun _ h => h.kept (hE.kept q0)
    have a1 : ∀ W, Ext wr W → W.cell? ⟨gy, 3, none⟩ = some (.slice t1 G.seen.length t2) := fun _ h => h.kept (hE.kept q1)
    have hgx := hE.lt hgx
    have hgy := hE.lt hgy
    clear hall hE q0 q1
    by_cases hF : k < F.seen.length
    ·by_cases hG : k < G.seen.length
     ·obtain ⟨e0, e1, e2⟩ := (Hrow1.out.ext XE.out).see k hF
      obtain ⟨f0, f1, f2⟩ := (Hrow2.out.ext XE.out).see k hG
      have k0 : ∀ W, Ext wr W → W.cell? ⟨br1, or1 + k * 3, none⟩ = some (.int .i64 (F.seen.getD k default).kind) := fun _ h => h.kept e0
      have k1 : ∀ W, Ext wr W → W.cell? ⟨br1, or1 + k * 3 + 1, none⟩ = some (.int .i64 (F.seen.getD k default).a) := fun _ h => h.kept e1
      have k2 : ∀ W, Ext wr W → W.cell? ⟨br1, or1 + k * 3 + 2, none⟩ = some (.int .i64 (F.seen.getD k default).b) := fun _ h => h.kept e2
      have l0 : ∀ W, Ext wr W → W.cell? ⟨br2, or2 + k * 3, none⟩ = some (.int .i64 (G.seen.getD k default).kind) := fun _ h => h.kept f0
      have l1 : ∀ W, Ext wr W → W.cell? ⟨br2, or2 + k * 3 + 1, none⟩ = some (.int .i64 (G.seen.getD k default).a) := fun _ h => h.kept f1
      have l2 : ∀ W, Ext wr W → W.cell? ⟨br2, or2 + k * 3 + 2, none⟩ = some (.int .i64 (G.seen.getD k default).b) := fun _ h => h.kept f2
      have heql := fun W => Qdo (F.seen.getD k default) (G.seen.getD k default) W
      simp only [Q7r] at heql
      clear e0 e1 e2 f0 f1 f2
      by_cases heq : F.seen.getD k default = G.seen.getD k default
      ·rw [decide_eq_true heq] at heql
       have Heq := Lib.hid heq
       clear heq
       generalize hgx' : F.seen.getD k default = x at *
       generalize hgy' : G.seen.getD k default = y at *
       have Hx := Lib.hid hgx'
       have Hy := Lib.hid hgy'
       clear hgx' hgy'
       go_upto_region 9 with fail
       refine Q0i 25 (by kernel_rfl) (by kernel_rfl) ?_
       simp only [List.take_succ_cons, List.take_zero, List.drop_succ_cons, List.drop_zero]
       repeat (first | (refine Q0e ?_ ?_ (fun wc hE => ?_) ?_; (decide); rfl; (focus (go_simp; done)); go_simp) | (refine Q0a ?_ ?_ ?_; (decide); (first | rfl | (focus (go_simp; done))); apply Exists.intro; refine ⟨fun wc hE => ?_, ?_⟩; (go_simp; exact rfl); go_simp) | (refine Q0f ?_ ?_ ?_; (decide); (first | rfl | (focus (go_simp; done))); apply Exists.intro; refine ⟨fun wc hE => ?_, ?_⟩; (go_simp; (first | fail)); go_simp) | (refine Q0c ?_ ?_ ?_; (decide); (focus (go_simp; done)); go_simp))
       refine Q0d ?_
       intro wx hx
       have XE := Lib.hid (XE.out.trans hx)
       have q0 := a0 wx hx
       have q1 := a1 wx hx
       have hgx := hx.lt hgx
       have hgy := hx.lt hgy
       clear hx k0 k1 k2 l0 l1 l2 a0 a1
       go_wp2
       go_roundw
       case rel => exact ⟨k + 1, by omega, by omega, by go_num, fun j hj => by
        rcases Nat.lt_or_ge j k with h | h
        ·exact Hall.out j h
        ·obtain rfl : j = k := by omega
         rw [Hx.out, Hy.out]; exact Heq.out, XE.out⟩
       case measure => first | (simp [intOf]; done) | (simp [intOf]; omega)
      ·rw [decide_eq_false heq] at heql
       have Hne := Lib.hid heq
       clear heq
       generalize hgx' : F.seen.getD k default = x at *
       generalize hgy' : G.seen.getD k default = y at *
       have Hx := Lib.hid hgx'
       have Hy := Lib.hid hgy'
       clear hgx' hgy'
       go_upto_region 9 with fail
       refine Q0i 25 (by kernel_rfl) (by kernel_rfl) ?_
       simp only [List.take_succ_cons, List.take_zero, List.drop_succ_cons, List.drop_zero]
       repeat (first | (refine Q0e ?_ ?_ (fun wc hE => ?_) ?_; (decide); rfl; (focus (go_simp; done)); go_simp) | (refine Q0a ?_ ?_ ?_; (decide); (first | rfl | (focus (go_simp; done))); apply Exists.intro; refine ⟨fun wc hE => ?_, ?_⟩; (go_simp; exact rfl); go_simp) | (refine Q0f ?_ ?_ ?_; (decide); (first | rfl | (focus (go_simp; done))); apply Exists.intro; refine ⟨fun wc hE => ?_, ?_⟩; (go_simp; (first | fail)); go_simp) | (refine Q0c ?_ ?_ ?_; (decide); (focus (go_simp; done)); go_simp))
       refine Q0d ?_
       intro wx hx
       have XE := Lib.hid (XE.out.trans hx)
       have q0 := a0 wx hx
       have q1 := a1 wx hx
       have hgx := hx.lt hgx
       have hgy := hx.lt hgy
       clear hx k0 k1 k2 l0 l1 l2 a0 a1
       go_wp2
       exact bodyPost_ret (Q2n (va := .int .i64 (k : Int)) (vb := .bool true) (vc := .int .i64 0) rfl _ rfl rfl rfl) rfl (Q1j.at_ hkF hkG Hall.out (.inr (.inr (by rw [Hx.out, Hy.out]; exact Hne.out))) (.inl hF) (X.out.trans XE.out))
     ·have dG : G.seen.length ≤ k := by omega
      go_upto_region 9 with fail
      refine Q0i 25 (by kernel_rfl) (by kernel_rfl) ?_
      simp only [List.take_succ_cons, List.take_zero, List.drop_succ_cons, List.drop_zero]
      repeat (first | (refine Q0e ?_ ?_ (fun wc hE => ?_) ?_; (decide); rfl; (focus (go_simp; done)); go_simp) | (refine Q0a ?_ ?_ ?_; (decide); (first | rfl | (focus (go_simp; done))); apply Exists.intro; refine ⟨fun wc hE => ?_, ?_⟩; (go_simp; exact rfl); go_simp) | (refine Q0f ?_ ?_ ?_; (decide); (first | rfl | (focus (go_simp; done))); apply Exists.intro; refine ⟨fun wc hE => ?_, ?_⟩; (go_simp; (first | fail)); go_simp) | (refine Q0c ?_ ?_ ?_; (decide); (focus (go_simp; done)); go_simp))
      refine Q0d ?_
      intro wx hx
      have XE := Lib.hid (XE.out.trans hx)
      have q0 := a0 wx hx
      have q1 := a1 wx hx
      have hgx := hx.lt hgx
      have hgy := hx.lt hgy
      clear hx a0 a1
      go_wp2
      exact bodyPost_ret (Q2n (va := .int .i64 (k : Int)) (vb := .bool true) (vc := .int .i64 0) rfl _ rfl rfl rfl) rfl (Q1j.at_ hkF hkG Hall.out (.inr (.inl (by omega))) (.inl hF) (X.out.trans XE.out))
    ·have dF : F.seen.length ≤ k := by omega
     by_cases hG : k < G.seen.length
     ·skip
      go_upto_region 9 with fail
      refine Q0i 25 (by kernel_rfl) (by kernel_rfl) ?_
      simp only [List.take_succ_cons, List.take_zero, List.drop_succ_cons, List.drop_zero]
      repeat (first | (refine Q0e ?_ ?_ (fun wc hE => ?_) ?_; (decide); rfl; (focus (go_simp; done)); go_simp) | (refine Q0a ?_ ?_ ?_; (decide); (first | rfl | (focus (go_simp; done))); apply Exists.intro; refine ⟨fun wc hE => ?_, ?_⟩; (go_simp; exact rfl); go_simp) | (refine Q0f ?_ ?_ ?_; (decide); (first | rfl | (focus (go_simp; done))); apply Exists.intro; refine ⟨fun wc hE => ?_, ?_⟩; (go_simp; (first | fail)); go_simp) | (refine Q0c ?_ ?_ ?_; (decide); (focus (go_simp; done)); go_simp))
      refine Q0d ?_
      intro wx hx
      have XE := Lib.hid (XE.out.trans hx)
      have q0 := a0 wx hx
      have q1 := a1 wx hx
      have hgx := hx.lt hgx
      have hgy := hx.lt hgy
      clear hx a0 a1
      go_wp2
      exact bodyPost_ret (Q2n (va := .int .i64 (k : Int)) (vb := .bool true) (vc := .int .i64 0) rfl _ rfl rfl rfl) rfl (Q1j.at_ hkF hkG Hall.out (.inl (by omega)) (.inr hG) (X.out.trans XE.out))
     ·have dG : G.seen.length ≤ k := by omega
      go_upto_region 9 with fail
      refine Q0i 25 (by kernel_rfl) (by kernel_rfl) ?_
      simp only [List.take_succ_cons, List.take_zero, List.drop_succ_cons, List.drop_zero]
      repeat (first | (refine Q0e ?_ ?_ (fun wc hE => ?_) ?_; (decide); rfl; (focus (go_simp; done)); go_simp) | (refine Q0a ?_ ?_ ?_; (decide); (first | rfl | (focus (go_simp; done))); apply Exists.intro; refine ⟨fun wc hE => ?_, ?_⟩; (go_simp; exact rfl); go_simp) | (refine Q0f ?_ ?_ ?_; (decide); (first | rfl | (focus (go_simp; done))); apply Exists.intro; refine ⟨fun wc hE => ?_, ?_⟩; (go_simp; (first | fail)); go_simp) | (refine Q0c ?_ ?_ ?_; (decide); (focus (go_simp; done)); go_simp))
      refine Q0d ?_
      intro wx hx
      have XE := Lib.hid (XE.out.trans hx)
      have q0 := a0 wx hx
      have q1 := a1 wx hx
      have hgx := hx.lt hgx
      have hgy := hx.lt hgy
      clear hx a0 a1
      go_wp2
      exact bodyPost_ret (Q2n (va := .int .i64 0) (vb := .bool false) (vc := .int .i64 0) rfl _ rfl rfl rfl) rfl (Q1j.none (k := k) (by omega) (by omega) Hall.out (X.out.trans XE.out))
  ·have Hne := Lib.hid h2
   have hne : (Q0u p b script fuel != 0) = true := by simpa using h2
   generalize Q0u p b script fuel = c at *
   clear h1 h2
   go_enter Try.func12, Try.ntmps12
   go_wp2_with fail
   obtain ⟨W, gp, hg, hW, hx, bP⟩ := Q34 w #[.slice a0 a1 a2, .slice b0 b1 b2] 25
   rw [hW, hg]
   have X := Lib.hid hx
   clear hW hg hx
   (with_reducible refine (W1.out W X.out).mono ?_)
   clear W1
   rintro e w1 ⟨rfl, hx⟩
   have X := Lib.hid (X.out.trans hx)
   have bP := bP.ext hx
   have c0 : w1.cell? ⟨gp, 0, none⟩ = some (.slice a0 a1 a2) := by rw [bP.cell]; rfl
   have c1 : w1.cell? ⟨gp, 1, none⟩ = some (.slice b0 b1 b2) := by rw [bP.cell]; rfl
   have hgp := bP.lt
   clear hx
   go_wp2_with fail
   (with_reducible refine (W2.out w1 X.out).mono ?_)
   clear W2
   rintro e w2 ⟨rfl, hx⟩
   have X := Lib.hid (X.out.trans hx)
   clear hx c0 c1 hgp bP
   go_wp2
   exact bodyPost_ret (Q2n (va := .int .i64 0) (vb := .bool false) (vc := .int .i64 c) rfl _ rfl rfl rfl) rfl (Q1j.no Hne.out X.out)
 ·rw [if_neg h1]
  have Hne := Lib.hid h1
  have hne : (Q0u p a script fuel != 0) = true := by simpa using h1
  have hz : (Q0u p a script fuel == (0 : Int)) = false := by simpa using h1
  generalize Q0u p a script fuel = c at *
  clear h1
  go_enter Try.func12, Try.ntmps12
  go_wp2_with fail
  obtain ⟨W, gp, hg, hW, hx, bP⟩ := Q34 w #[.slice a0 a1 a2, .slice b0 b1 b2] 25
  rw [hW, hg]
  have X := Lib.hid hx
  clear hW hg hx
  (with_reducible refine (W1.out W X.out).mono ?_)
  clear W1
  rintro e w1 ⟨rfl, hx⟩
  have X := Lib.hid (X.out.trans hx)
  clear hx bP
  go_wp2
  exact bodyPost_ret (Q2n (va := .int .i64 0) (vb := .bool false) (vc := .int .i64 c) rfl _ rfl rfl rfl) rfl (Q1j.no Hne.out X.out)
set_option maxRecDepth 100000 in
set_option maxHeartbeats 8000000 in
theorem Qhz {p : Q01} {v : Value} {a b : List (List Int)} {va vb vx : Value} {script : List Int} {w : World} (hp : Q10 w v p) (ha : Q1w w va a) (hb : Q1w w vb b) (hs : Q1i w vx script) (fuel : Int) (hf : R64 fuel) :
  Calls Try.prog 4 #[v, va, vb, vx, .int .i64 fuel] w fun e w' => e = .returned (.bool true) ∧ Ext w w' := by
 have HP := Lib.hid hp
 have HA := Lib.hid ha
 have HB := Lib.hid hb
 have HS := Lib.hid hs
 have Hf := Lib.hid hf
 obtain ⟨a0, a1, a2, b0, b1, b2, rfl⟩ := Q57 hp
 clear hp ha hb hs
 by_cases hq : 4000 < fuel ∧ fuel ≤ 40000
 ·obtain ⟨q1, q2⟩ := hq
  go_enter Try.func4, Try.ntmps4
  go_wp2
  go_ret
  exact ⟨rfl, (Ext.refl _).alloc _⟩
 have hq' : fuel ≤ 4000 ∨ 40000 < fuel := by omega
 have hd : decide (4000 < fuel) = false ∨ (decide (4000 < fuel) = true ∧ decide (fuel ≤ 40000) = false) := by
  rcases hq' with h | h
  ·exact .inl (decide_eq_false (by omega))
  ·exact .inr ⟨decide_eq_true (by omega), decide_eq_false (by omega)⟩
 clear hq hq'
 have C1 := Lib.hid fun W (X : Ext w W) => Qhy p a b script fuel _ va vb vx W (HP.out.ext X) (HA.out.ext X) (HB.out.ext X) (HS.out.ext X) Hf.out
 have C2 := Lib.hid fun W (X : Ext w W) => Qf4 p a b script fuel _ va vb vx W (HP.out.ext X) (HA.out.ext X) (HB.out.ext X) (HS.out.ext X) Hf.out
 unfold Q1j at C1 C2
 generalize (if Q4x p a b script fuel = 0 then Q5i (Q3m p a script fuel) (Q3m p b script fuel) else 0) = k at *
 generalize (if Q4x p a b script fuel = 0 then Q3w (Q3m p a script fuel) (Q3m p b script fuel) else false) = t at *
 generalize Q4x p a b script fuel = x at *
 have hk : (k == k) = true := by simp
 have ht : (t == t) = true := by simp
 have hx : (x == x) = true := by simp
 go_enter Try.func4, Try.ntmps4
 rcases hd with hd | ⟨hd, hd2⟩
 all_goals
  go_wp2_with fail
  obtain ⟨W, gp, hg, hW, hx, bA⟩ := Q34 w #[.slice a0 a1 a2, .slice b0 b1 b2] 25
  rw [hW, hg]
  have X := Lib.hid hx
  clear hW hg hx
  (with_reducible refine (C1.out W X.out).mono ?_)
  clear C1
  rintro e w1 ⟨rfl, hx⟩
  have X := Lib.hid (X.out.trans hx)
  have bA := bA.ext hx
  have hgpl := bA.lt
  have c0 : w1.cell? ⟨gp, 0, none⟩ = some (.slice a0 a1 a2) := by rw [bA.cell]; rfl
  have c1 : w1.cell? ⟨gp, 1, none⟩ = some (.slice b0 b1 b2) := by rw [bA.cell]; rfl
  clear hx
  go_wp2_with fail
  (with_reducible refine (C2.out w1 X.out).mono ?_)
  clear C2
  rintro e w3 ⟨rfl, hx⟩
  have X := Lib.hid (X.out.trans hx)
  clear hx bA c0 c1 hgpl
  cases t
  all_goals
   go_wp2
   go_ret
   exact ⟨rfl, X.out⟩
end Go.Proofs.Ytalpnmjaafcpoaa
