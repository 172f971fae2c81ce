/- Laid together from: Ref3e, SeqR. -/
import Derived.Test.YteiknefajlocoaaSpecRunsB23
import Derived.Test.YteiknefajlocoaaSpecRunsB27

namespace Go.Proofs.Yteiknefajlocoaa
open Go.ChangeShapes Go.WideShapes Go.ChangeAt Go.RowKit
set_option linter.unusedVariables false
set_option linter.unusedSimpArgs false
theorem Qb0 {oa : Option Addr} {n b o cap : Nat} (h : 0 < n → oa = some ⟨b, o, none⟩) (W : World) (i : Int) (h0 : 0 ≤ i) (h1 : i < n) :
  (Instr.indexAt 34 (.slice oa n cap) (.int .i64 i)).run Try.prog W = .ok (.pointer (some ⟨b, o + i.toNat * 3, none⟩)) W := by
 obtain rfl := h (by omega)
 have hs : (Try.prog.info? 98).map (·.size) = some 3 := by kernel_rfl
 simp [Instr.indexAt, run_underlying Try.underlying34, asIntOf, h0, h1]
 exact Q35 b o _
theorem Qdc (a b c : Int) (w : World) : (binOp .neq 98 (.agg #[.int .i64 a, .int .i64 b, .int .i64 c]) (.agg #[.int .i64 a, .int .i64 b, .int .i64 c])).run Try.prog w = .ok (.bool false) w := by
 go_simp
set_option maxHeartbeats 2000000 in
theorem Qe8 (l : List LSee) (v u : Value) (w : World) (hv : Q4a w v l) (hu : Q4a w u l) :
  Calls Try.prog 68 #[v, u] w fun e w' => e = .returned (.bool true) ∧ Ext w w' := by
 obtain ⟨oa, cap, b, o, rfl, hc1, hc2, hrow⟩ := hv
 obtain ⟨ob, capb, b2, o2, rfl, hd1, hd2, hrow2⟩ := hu
 have hlen := Q0s hc1 hc2
 have hix := Qb0 (cap := cap) hrow.at_
 have hix2 := Qb0 (cap := capb) hrow2.at_
 have Hrow := Lib.hid hrow
 have Hrow2 := Lib.hid hrow2
 have hne := Qdc
 have hq1 : ((l.length : Int) != (l.length : Int)) = false := by simp
 clear hrow hrow2 hc1 hc2 hd1 hd2
 go_enter Try.func68, Try.ntmps68
 go_wp2_with fail
 go_loopw [5] (fun i wr => ∃ j : Nat, j ≤ l.length ∧ i = .int .i64 j ∧ Ext w wr) (fun i _ => l.length - (intOf i).toNat)
 case atStart => exact ⟨0, by omega, rfl, Ext.refl _⟩
 case round =>
  obtain ⟨j, hj, rfl, hE⟩ := hrel
  have X := Lib.hid hE
  clear hE
  by_cases hlt : j < l.length
  ·obtain ⟨e0, e1, e2⟩ := (Hrow.out.ext X.out).see j hlt
   obtain ⟨f0, f1, f2⟩ := (Hrow2.out.ext X.out).see j hlt
   generalize l.getD j default = x at *
   have k0 : ∀ W, Ext wr W → W.cell? ⟨b, o + j * 3, none⟩ = some (.int .i64 x.kind) := fun _ h => h.kept e0
   have k1 : ∀ W, Ext wr W → W.cell? ⟨b, o + j * 3 + 1, none⟩ = some (.int .i64 x.a) := fun _ h => h.kept e1
   have k2 : ∀ W, Ext wr W → W.cell? ⟨b, o + j * 3 + 2, none⟩ = some (.int .i64 x.b) := fun _ h => h.kept e2
   have l0 : ∀ W, Ext wr W → W.cell? ⟨b2, o2 + j * 3, none⟩ = some (.int .i64 x.kind) := fun _ h => h.kept f0
   have l1 : ∀ W, Ext wr W → W.cell? ⟨b2, o2 + j * 3 + 1, none⟩ = some (.int .i64 x.a) := fun _ h => h.kept f1
   have l2 : ∀ W, Ext wr W → W.cell? ⟨b2, o2 + j * 3 + 2, none⟩ = some (.int .i64 x.b) := fun _ h => h.kept f2
   clear e0 e1 e2 f0 f1 f2
   go_upto_region 6 with fail
   refine Q0p 9 (by kernel_rfl) (by kernel_rfl) ?_
   simp only [List.take_succ_cons, List.take_zero, List.drop_succ_cons, List.drop_zero]
   repeat (first | (refine Q0h ?_ ?_ (fun wc hE => ?_) ?_; (decide); rfl; (focus (go_simp; done)); go_simp) | (refine Q0b ?_ ?_ ?_; (decide); (first | rfl | (focus (go_simp; done))); apply Exists.intro; refine ⟨fun wc hE => ?_, ?_⟩; (go_simp; exact rfl); go_simp) | (refine Q0i ?_ ?_ ?_; (decide); (first | rfl | (focus (go_simp; done))); apply Exists.intro; refine ⟨fun wc hE => ?_, ?_⟩; (go_simp; (first | fail)); go_simp) | (refine Q0f ?_ ?_ ?_; (decide); (focus (go_simp; done)); go_simp))
   refine Q0g ?_
   intro wx hx
   have X := Lib.hid (X.out.trans hx)
   clear hx k0 k1 k2 l0 l1 l2
   go_wp2
   go_roundw
   case rel => exact ⟨j + 1, by omega, by go_num, X.out⟩
   case measure => first | (simp [intOf]; done) | (simp [intOf]; omega)
  ·go_wp2
   go_ret
   exact ⟨rfl, X.out⟩
theorem Qh5 (x : Int) : (x != x) = false := by simp
set_option maxHeartbeats 4000000 in
theorem Qec (m : List (List Int)) (v u : Value) (w : World) (hv : Q28 w v m) (hu : Q28 w u m) :
  Calls Try.prog 49 #[v, u] w fun e w' => e = .returned (.bool true) ∧ Ext w w' := by
 obtain ⟨oa, cap, b, o, rfl, hc1, hc2, vs, hrow, hin⟩ := hv
 obtain ⟨ob, capb, b2, o2, rfl, hd1, hd2, us, hrow2, hin2⟩ := hu
 have hlen := Q0s hc1 hc2
 have hix := index_mem' (cap := cap) hrow.at_
 have hix2 := index_mem' (cap := capb) hrow2.at_
 have Hrow := Lib.hid hrow
 have Hrow2 := Lib.hid hrow2
 have Hin := Lib.hid hin
 have Hin2 := Lib.hid hin2
 have hne := Qh5
 have hq1 : ((m.length : Int) != (m.length : Int)) = false := by simp
 clear hrow hrow2 hc1 hc2 hd1 hd2 hin hin2
 go_enter Try.func49, Try.ntmps49
 go_wp2_with fail
 go_loopw [5] (fun i wr => ∃ j : Nat, j ≤ m.length ∧ i = .int .i64 j ∧ Ext w wr) (fun i _ => m.length - (intOf i).toNat)
 case atStart => exact ⟨0, by omega, rfl, Ext.refl _⟩
 case round =>
  obtain ⟨j, hj, rfl, hE⟩ := hrel
  have X := Lib.hid hE
  clear hE
  by_cases hlt : j < m.length
  ·have e0 := (Hrow.out.ext X.out).one j hlt
   have f0 := (Hrow2.out.ext X.out).one j hlt
   have h1 := (Hin.out j hlt).ext X.out
   have h2 := (Hin2.out j hlt).ext X.out
   generalize m.getD j default = l at *
   generalize vs j = vj at *
   generalize us j = uj at *
   obtain ⟨-, oc, capc, b3, o3, rfl, hc3, hc4, r3⟩ := h1
   obtain ⟨-, od, capd, b4, o4, rfl, hd3, hd4, r4⟩ := h2
   have hlen2 := Q0s hc3 hc4
   have hq2 : ((l.length : Int) != (l.length : Int)) = false := by simp
   have hiy := Q8c (cap := capc) r3.at_
   have hiy2 := Q8c (cap := capd) r4.at_
   have R3 := Lib.hid r3
   have R4 := Lib.hid r4
   have k0 : ∀ W, Ext wr W → W.cell? ⟨b, o + j, none⟩ = some (.slice oc l.length capc) := fun _ h => h.kept e0
   have k1 : ∀ W, Ext wr W → W.cell? ⟨b2, o2 + j, none⟩ = some (.slice od l.length capd) := fun _ h => h.kept f0
   clear r3 r4 hc3 hc4 hd3 hd4
   go_upto_region 6 with fail
   refine Q0p 11 (by kernel_rfl) (by kernel_rfl) ?_
   simp only [List.take_succ_cons, List.take_zero, List.drop_succ_cons, List.drop_zero]
   repeat (first | (refine Q0h ?_ ?_ (fun wc hE => ?_) ?_; (decide); rfl; (focus (go_simp; done)); go_simp) | (refine Q0b ?_ ?_ ?_; (decide); (first | rfl | (focus (go_simp; done))); apply Exists.intro; refine ⟨fun wc hE => ?_, ?_⟩; (go_simp; exact rfl); go_simp) | (refine Q0i ?_ ?_ ?_; (decide); (first | rfl | (focus (go_simp; done))); apply Exists.intro; refine ⟨fun wc hE => ?_, ?_⟩; (go_simp; (first | fail)); go_simp) | (refine Q0f ?_ ?_ ?_; (decide); (focus (go_simp; done)); go_simp))
   refine Q0g ?_
   intro wx hx
   have HE := Lib.hid hx
   have X := Lib.hid (X.out.trans hx)
   clear k0 k1
   have e0 := hx.kept e0
   have f0 := hx.kept f0
   clear hx
   go_wp2_with fail
   obtain ⟨w1, hw1⟩ : ∃ w1, w1 = wx := ⟨_, rfl⟩
   subst hw1
   go_loopw [6] (fun i wr => ∃ k : Nat, k ≤ l.length ∧ i = .int .i64 k ∧ Ext w1 wr) (fun i _ => l.length - (intOf i).toNat)
   case atStart => exact ⟨0, by omega, rfl, Ext.refl _⟩
   case round =>
    obtain ⟨k, hk, rfl, hE⟩ := hrel
    have e0 := hE.kept e0
    have f0 := hE.kept f0
    have HE2 := Lib.hid (HE.out.trans hE)
    have HE1 := Lib.hid hE
    clear hE
    by_cases hltk : k < l.length
    ·have e1 := (R3.out.ext HE2.out).one k hltk
     have f1 := (R4.out.ext HE2.out).one k hltk
     generalize l.getD k default = x at *
     have k0 : ∀ W, Ext wr W → W.cell? ⟨b, o + j, none⟩ = some (.slice oc l.length capc) := fun _ h => h.kept e0
     have k1 : ∀ W, Ext wr W → W.cell? ⟨b2, o2 + j, none⟩ = some (.slice od l.length capd) := fun _ h => h.kept f0
     have k2 : ∀ W, Ext wr W → W.cell? ⟨b3, o3 + k, none⟩ = some (.int .i64 x) := fun _ h => h.kept e1
     have k3 : ∀ W, Ext wr W → W.cell? ⟨b4, o4 + k, none⟩ = some (.int .i64 x) := fun _ h => h.kept f1
     clear f0 e1 f1
     go_upto_region 11 with fail
     refine Q0p 15 (by kernel_rfl) (by kernel_rfl) ?_
     simp only [List.take_succ_cons, List.take_zero, List.drop_succ_cons, List.drop_zero]
     repeat (first | (refine Q0h ?_ ?_ (fun wc hE => ?_) ?_; (decide); rfl; (focus (go_simp; done)); go_simp) | (refine Q0b ?_ ?_ ?_; (decide); (first | rfl | (focus (go_simp; done))); apply Exists.intro; refine ⟨fun wc hE => ?_, ?_⟩; (go_simp; exact rfl); go_simp) | (refine Q0i ?_ ?_ ?_; (decide); (first | rfl | (focus (go_simp; done))); apply Exists.intro; refine ⟨fun wc hE => ?_, ?_⟩; (go_simp; (first | fail)); go_simp) | (refine Q0f ?_ ?_ ?_; (decide); (focus (go_simp; done)); go_simp))
     refine Q0g ?_
     intro wy hy
     have HE1 := Lib.hid (HE1.out.trans hy)
     clear hy k0 k1 k2 k3 e0
     go_wp2
     go_roundw
     case rel => exact ⟨k + 1, by omega, by go_num, HE1.out⟩
     case measure => first | (simp [intOf]; done) | (simp [intOf]; omega)
    ·have hje : k = l.length := by omega
     subst hje
     have hlt2 : decide ((l.length : Int) < (l.length : Int)) = false := by simp
     go_wp2
     go_roundw
     case rel => exact ⟨j + 1, by omega, by go_num, X.out.trans HE1.out⟩
     case measure => first | (simp [intOf]; done) | (simp [intOf]; omega)
  ·have hje : j = m.length := by omega
   subst hje
   have hlt2 : decide ((m.length : Int) < (m.length : Int)) = false := by simp
   go_wp2
   go_ret
   exact ⟨rfl, X.out⟩
set_option maxHeartbeats 4000000 in
theorem Q7s (v u : Value) (fin value : Int) (steps : Nat) (seen : List LSee) (mem : List (List Int)) (w : World) (hv : Q2r w v fin value steps seen mem) (hu : Q2r w u fin value steps seen mem) :
  Calls Try.prog 33 #[v, u] w fun e w' => e = .returned (.bool true) ∧ Ext w w' := by
 obtain ⟨vs, vm, rfl, hs, hm⟩ := hv
 obtain ⟨us, um, rfl, hs2, hm2⟩ := hu
 have Hs := Lib.hid hs
 have Hm := Lib.hid hm
 have Hs2 := Lib.hid hs2
 have Hm2 := Lib.hid hm2
 have hqa : ∀ x : Int, (x == x) = true := by simp
 clear hs hm hs2 hm2
 go_enter Try.func33, Try.ntmps33
 go_wp2_with fail
 obtain ⟨W, g, hg, hW, hx, bA, bB⟩ := Q23 w #[.int .i64 fin, .int .i64 value, .int .i64 steps, vs, vm] #[.int .i64 fin, .int .i64 value, .int .i64 steps, us, um] 36 36
 rw [hW, hg]
 have X := Lib.hid hx
 have k4 : W.cell? ⟨g, 4, none⟩ = some vm := by rw [bA.cell]; rfl
 have l4 : W.cell? ⟨g + 1, 4, none⟩ = some um := by rw [bB.cell]; rfl
 clear hW hg hx bA bB
 (with_reducible refine (Qe8 seen vs us W (Hs.out.ext X.out) (Hs2.out.ext X.out)).mono ?_)
 rintro e w1 ⟨rfl, hx⟩
 have X := Lib.hid (X.out.trans hx)
 have k4 := hx.kept k4
 have l4 := hx.kept l4
 clear hx
 go_wp2_with fail
 (with_reducible refine (Qec mem vm um w1 (Hm.out.ext X.out) (Hm2.out.ext X.out)).mono ?_)
 rintro e w2 ⟨rfl, hx⟩
 have X := Lib.hid (X.out.trans hx)
 clear hx k4 l4
 go_wp2
 go_ret
 exact ⟨rfl, X.out⟩
theorem Q7h {w : World} {v : Value} {fin value : Int} {steps : Nat} {seen : List LSee} {mem : List (List Int)} (h : Q2r w v fin value steps seen mem) :
  ∃ a c b d, v = .agg #[.int .i64 fin, .int .i64 value, .int .i64 steps, .slice a seen.length c, .slice b mem.length d] := by
 obtain ⟨vs, vm, rfl, ⟨oa, cap, b, o, rfl, -⟩, ⟨ob, capb, b2, o2, rfl, -⟩⟩ := h
 exact ⟨_, _, _, _, rfl⟩
end Go.Proofs.Yteiknefajlocoaa
