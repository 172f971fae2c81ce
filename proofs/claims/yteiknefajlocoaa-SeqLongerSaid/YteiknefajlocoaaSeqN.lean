/- The walk of SeqLonger. -/
import Derived.Test.YteiknefajlocoaaSeq7
import Derived.Test.YteiknefajlocoaaRef3e
namespace Go.Proofs.Yteiknefajlocoaa
open Go.ChangeShapes Go.WideShapes Go.ChangeAt Go.RowKit
set_option linter.unusedVariables false
set_option linter.unusedSimpArgs false

theorem shown_sl {w : World} {v : Value} {fin value : Int} {steps : Nat} {seen : List LSee} {mem : List (List Int)} (h : ShownAt w v fin value steps seen mem) :
    ∃ a c b d, v = .agg #[.int .i64 fin, .int .i64 value, .int .i64 steps, .slice a seen.length c, .slice b mem.length d] ∧ SeenAt w (.slice a seen.length c) seen := by
  obtain ⟨vs, vm, rfl, ⟨oa, cap, b, o, rfl, hs⟩, ⟨ob, capb, b2, o2, rfl, -⟩⟩ := h
  exact ⟨_, _, _, _, rfl, oa, cap, b, o, rfl, hs⟩
theorem mayE_in {p : LProg} {m : List (List Int)} {fuel : Int} (h0 : 0 ≤ fuel) (h1 : fuel ≤ 40000) : mayE p m fuel = if (hardOk p && fitsOk p m) = false then 2 else 0 := by
  unfold mayE
  rw [if_neg (show ¬ (fuel < 0 ∨ 40000 < fuel) by omega)]
set_option maxRecDepth 100000 in
set_option maxHeartbeats 2000000 in
theorem begins_c (l t : List LSee) (v u : Value) (w : World) (hv : SeenAt w v (l ++ t)) (hu : SeenAt w u l) :
    Calls Try.prog 34 #[v, u] w fun e w' => e = .returned (.bool true) ∧ Ext w w' := by
  obtain ⟨oa, cap, b, o, rfl, hc1, hc2, hrow⟩ := hv
  obtain ⟨ob, capb, b2, o2, rfl, hd1, hd2, hrow2⟩ := hu
  have hlen := len_bd hc1 hc2
  have hlen2 := len_bd hd1 hd2
  have hix := index_see (cap := cap) hrow.at_
  have hix2 := index_see (cap := capb) hrow2.at_
  have Hrow := Lib.hid hrow
  have Hrow2 := Lib.hid hrow2
  have hle : l.length ≤ (l ++ t).length := by simp
  have Hget : Hid (∀ j, j < l.length → (l ++ t).getD j default = l.getD j default) := Lib.hid fun j hj => by simp [List.getD_eq_getElem?_getD, List.getElem?_append_left hj]
  have hne := see_ne
  generalize hL : (l ++ t).length = L at *
  have hq1 : decide ((L : Int) < (l.length : Int)) = false := by simp; omega
  have hq2 : decide (L < l.length) = false := by simp; omega
  have hq3 : ¬ L < l.length := by omega
  clear hrow hrow2 hc1 hc2 hd1 hd2
  go_enter Try.func34, Try.ntmps34
  go_wp2_with fail
  go_loopw [5] (fun i wr => ∃ j : Nat, j ≤ l.length ∧ i = .int .i64 j ∧ Ext w wr) (fun i _ => l.length - (intOf i).toNat)
  case atStart => exact ⟨0, by omega, rfl, Ext.refl _⟩
  case round =>
    obtain ⟨j, hj, rfl, hE⟩ := hrel
    have X := Lib.hid hE
    clear hE
    by_cases hlt : j < l.length
    · have hjL : j < L := by omega
      have hr1 := (Hrow.out.ext X.out)
      rw [← hL] at hr1
      obtain ⟨e0, e1, e2⟩ := hr1.see j (by simp; omega)
      rw [Hget.out j hlt] at e0 e1 e2
      obtain ⟨f0, f1, f2⟩ := (Hrow2.out.ext X.out).see j hlt
      generalize l.getD j default = x at *
      have k0 : ∀ W, Ext wr W → W.cell? ⟨b, o + j * 3, none⟩ = some (.int .i64 x.kind) := fun _ h => h.kept e0
      have k1 : ∀ W, Ext wr W → W.cell? ⟨b, o + j * 3 + 1, none⟩ = some (.int .i64 x.a) := fun _ h => h.kept e1
      have k2 : ∀ W, Ext wr W → W.cell? ⟨b, o + j * 3 + 2, none⟩ = some (.int .i64 x.b) := fun _ h => h.kept e2
      have l0 : ∀ W, Ext wr W → W.cell? ⟨b2, o2 + j * 3, none⟩ = some (.int .i64 x.kind) := fun _ h => h.kept f0
      have l1 : ∀ W, Ext wr W → W.cell? ⟨b2, o2 + j * 3 + 1, none⟩ = some (.int .i64 x.a) := fun _ h => h.kept f1
      have l2 : ∀ W, Ext wr W → W.cell? ⟨b2, o2 + j * 3 + 2, none⟩ = some (.int .i64 x.b) := fun _ h => h.kept f2
      clear e0 e1 e2 f0 f1 f2 hr1
      go_upto_region 6 with fail
      refine region_calm 9 (by kernel_rfl) (by kernel_rfl) ?_
      simp only [List.take_succ_cons, List.take_zero, List.drop_succ_cons, List.drop_zero]
      repeat (first | (refine calm_fresh ?_ ?_ (fun wc hE => ?_) ?_; (decide); rfl; (focus (go_simp; done)); go_simp) | (refine calm_value ?_ ?_ ?_; (decide); (first | rfl | (focus (go_simp; done))); apply Exists.intro; refine ⟨fun wc hE => ?_, ?_⟩; (go_simp; exact rfl); go_simp) | (refine calm_call ?_ ?_ ?_; (decide); (first | rfl | (focus (go_simp; done))); apply Exists.intro; refine ⟨fun wc hE => ?_, ?_⟩; (go_simp; (first | fail)); go_simp) | (refine calm_skip ?_ ?_ ?_; (decide); (focus (go_simp; done)); go_simp))
      refine calm_nil ?_
      intro wx hx
      have X := Lib.hid (X.out.trans hx)
      clear hx k0 k1 k2 l0 l1 l2
      go_wp2
      go_roundw
      case rel => exact ⟨j + 1, by omega, by go_num, X.out⟩
      case measure => first | (simp [intOf]; done) | (simp [intOf]; omega)
    · have hje : j = l.length := by omega
      subst hje
      have hlt2 : decide ((l.length : Int) < (l.length : Int)) = false := by simp
      go_wp2
      go_ret
      exact ⟨rfl, X.out⟩
set_option maxRecDepth 100000 in
set_option maxHeartbeats 4000000 in
theorem seqLonger_walk {p : LProg} {v : Value} {m : List (List Int)} {vm : Value} {w : World} (hp : ProgAt w v p) (hm : MemAt w vm m) (few : Int) (hf : R64 few) (more : Int) (hg : R64 more) :
    Calls Try.prog 7 #[v, vm, .int .i64 few, .int .i64 more] w fun e w' => e = .returned (.bool true) ∧ Ext w w' := by
  have HP := Lib.hid hp
  have HM := Lib.hid hm
  have Hf := Lib.hid hf
  have Hg := Lib.hid hg
  obtain ⟨a0, a1, a2, b0, b1, b2, rfl⟩ := prog_sl hp
  clear hp hm hf hg
  by_cases q1 : few < 0
  · go_enter Try.func7, Try.ntmps7
    go_wp2
    go_ret
    exact ⟨rfl, (Ext.refl _).alloc _⟩
  have d1 : decide (few < 0) = false := decide_eq_false q1
  by_cases q2 : more < few
  · go_enter Try.func7, Try.ntmps7
    go_wp2
    go_ret
    exact ⟨rfl, (Ext.refl _).alloc _⟩
  have d2 : decide (more < few) = false := decide_eq_false q2
  by_cases q3 : 4000 < more
  · go_enter Try.func7, Try.ntmps7
    go_wp2
    go_ret
    exact ⟨rfl, (Ext.refl _).alloc _⟩
  have d3 : decide (4000 < more) = false := decide_eq_false q3
  have he1 := mayE_in (p := p) (m := m) (fuel := few) (by omega) (by omega)
  have he2 := mayE_in (p := p) (m := m) (fuel := more) (by omega) (by omega)
  have HL := Lib.hid (runM_longer p (start m.flatten) rfl few.toNat more.toNat (by omega))
  have hft : ((few.toNat : Nat) : Int) = few := by omega
  have C1 := Lib.hid fun W (X : Ext w W) => run_c p m few _ vm W (HP.out.ext X) (HM.out.ext X) Hf.out
  have C2 := Lib.hid fun W (X : Ext w W) => run_c p m more _ vm W (HP.out.ext X) (HM.out.ext X) Hg.out
  unfold RunPost at C1 C2
  rw [he1] at C1
  rw [he2] at C2
  generalize (runM p few.toNat (start m.flatten)) = F at *
  generalize (runM p more.toNat (start m.flatten)) = G at *
  clear he1 he2
  go_enter Try.func7, Try.ntmps7
  cases hok : (hardOk p && fitsOk p m)
  · rw [hok] at C1 C2
    simp only [eq_self_iff_true, if_true] at C1 C2
    clear hok q1 q2 q3
    go_wp2_with fail
    obtain ⟨W, gp, hg, hW, hx, bA⟩ := block1 w #[.slice a0 a1 a2, .slice b0 b1 b2] 25
    rw [hW, hg]
    have X := Lib.hid hx
    clear hW hg hx
    (with_reducible refine (C1.out W X.out).mono ?_)
    rintro e w1 ⟨u, rfl, hx, -, hB⟩
    have hB := hB (by decide)
    obtain ⟨s1, s2, s3, s4, rfl, -⟩ := shown_sl hB
    have X := Lib.hid (X.out.trans hx)
    have bA := bA.ext hx
    have hgpl := bA.lt
    have c0 : w1.cell? ⟨gp, 0, none⟩ = some (.slice a0 a1 a2) := by rw [bA.cell]; rfl
    have c1 : w1.cell? ⟨gp, 1, none⟩ = some (.slice b0 b1 b2) := by rw [bA.cell]; rfl
    clear hx
    go_wp2_with fail
    obtain ⟨w2, gs, hg, hW, hxx, bS⟩ := block1 w1 #[.int .i64 0, .int .i64 0, .int .i64 0, .slice s1 0 s2, .slice s3 0 s4] 36
    rw [hW, hg]
    have X := Lib.hid (X.out.trans hxx)
    clear hW hg c0 c1 bA
    (with_reducible refine (C2.out w2 X.out).mono ?_)
    rintro e w3 ⟨u2, rfl, hx, -, hB2⟩
    have hB2 := hB2 (by decide)
    obtain ⟨t1, t2, t3, t4, rfl, -⟩ := shown_sl hB2
    have X := Lib.hid (X.out.trans hx)
    have bS := bS.ext hx
    have s3' : w3.cell? ⟨gs, 3, none⟩ = some (.slice s1 0 s2) := by rw [bS.cell]; rfl
    have hgsl := bS.lt
    have X2 := Lib.hid (X.out.alloc (.cells #[.int .i64 0, .int .i64 0, .int .i64 0, .slice t1 0 t2, .slice t3 0 t4] 36))
    clear hx bS
    go_wp2
    go_ret
    exact ⟨rfl, X2.out⟩
  · rw [hok] at C1 C2
    simp only [Bool.true_eq_false, if_false] at C1 C2
    clear hok q1 q2 q3
    go_wp2_with fail
    obtain ⟨W, gp, hg, hW, hx, bA⟩ := block1 w #[.slice a0 a1 a2, .slice b0 b1 b2] 25
    rw [hW, hg]
    have X := Lib.hid hx
    clear hW hg hx
    (with_reducible refine (C1.out W X.out).mono ?_)
    rintro e w1 ⟨u, rfl, hx, hA, -⟩
    have hA := hA (by trivial)
    obtain ⟨s1, s2, s3, s4, rfl, hsn⟩ := shown_sl hA
    have HA := Lib.hid hA
    have HSn := Lib.hid hsn
    have X := Lib.hid (X.out.trans hx)
    have bA := bA.ext hx
    have hgpl := bA.lt
    have c0 : w1.cell? ⟨gp, 0, none⟩ = some (.slice a0 a1 a2) := by rw [bA.cell]; rfl
    have c1 : w1.cell? ⟨gp, 1, none⟩ = some (.slice b0 b1 b2) := by rw [bA.cell]; rfl
    clear hx
    go_wp2_with fail
    obtain ⟨w2, gs, hg, hW, hxx, bS⟩ := block1 w1 #[.int .i64 F.fin, .int .i64 F.value, .int .i64 F.steps, .slice s1 F.seen.length s2, .slice s3 (splitW p F.words).length s4] 36
    rw [hW, hg]
    have X := Lib.hid (X.out.trans hxx)
    clear hW hg c0 c1 bA
    have HA := Lib.hid (HA.out.ext hxx)
    have HSn := Lib.hid (HSn.out.ext hxx)
    clear hxx
    (with_reducible refine (C2.out w2 X.out).mono ?_)
    rintro e w3 ⟨u2, rfl, hx, hB, -⟩
    have hB := hB (by trivial)
    obtain ⟨t1, t2, t3, t4, rfl, hsn⟩ := shown_sl hB
    have X := Lib.hid (X.out.trans hx)
    have HA := Lib.hid (HA.out.ext hx)
    have HSn := Lib.hid (HSn.out.ext hx)
    have HB := Lib.hid hB
    have HTn := Lib.hid hsn
    have bS := bS.ext hx
    have s0 : w3.cell? ⟨gs, 0, none⟩ = some (.int .i64 F.fin) := by rw [bS.cell]; rfl
    have s1' : w3.cell? ⟨gs, 1, none⟩ = some (.int .i64 F.value) := by rw [bS.cell]; rfl
    have s2' : w3.cell? ⟨gs, 2, none⟩ = some (.int .i64 F.steps) := by rw [bS.cell]; rfl
    have s3' : w3.cell? ⟨gs, 3, none⟩ = some (.slice s1 F.seen.length s2) := by rw [bS.cell]; rfl
    have s4' : w3.cell? ⟨gs, 4, none⟩ = some (.slice s3 (splitW p F.words).length s4) := by rw [bS.cell]; rfl
    have hgsl := bS.lt
    have hx2 : Ext w3 (w3.alloc (.cells #[.int .i64 G.fin, .int .i64 G.value, .int .i64 G.steps, .slice t1 G.seen.length t2, .slice t3 (splitW p G.words).length t4] 36)) := (Ext.refl _).alloc _
    have HX2 := Lib.hid hx2
    clear hx bS hA hB hsn hx2
    by_cases hfin : F.fin = 0
    · obtain ⟨hst, hst2, t, hseen⟩ := HL.out.1 hfin
      have e1 : (((F.steps : Nat) : Int) == few) = true := by rw [hst]; simpa using hft
      have e2 : decide (few ≤ ((G.steps : Nat) : Int)) = true := by simp; omega
      have HTn2 : Hid (SeenAt w3 (.slice t1 G.seen.length t2) (F.seen ++ t)) := Lib.hid (by
        have := HTn.out
        rw [hseen] at this
        rw [hseen]
        exact this)
      rw [hfin] at s0
      clear hst hst2 hseen hfin
      go_wp2_with fail
      (with_reducible refine (begins_c F.seen t _ _ _ (HTn2.out.ext HX2.out) (HSn.out.ext HX2.out)).mono ?_)
      rintro e w5 ⟨rfl, hx5⟩
      have X := Lib.hid ((X.out.trans HX2.out).trans hx5)
      clear hx5 s0 s1' s2' s3' s4'
      go_wp2
      go_ret
      exact ⟨rfl, X.out⟩
    · have hFG := HL.out.2 hfin
      have hfd : (F.fin == (0 : Int)) = false := by simpa using hfin
      subst hFG
      clear hfin
      go_wp2_with fail
      have C := rSame3_c _ _ _ _ _ _ _ _ (HA.out.ext HX2.out) (HB.out.ext HX2.out)
      (with_reducible refine C.mono ?_)
      clear C
      rintro e w5 ⟨rfl, hx5⟩
      have X := Lib.hid ((X.out.trans HX2.out).trans hx5)
      clear hx5 s0 s1' s2' s3' s4'
      go_wp2
      go_ret
      exact ⟨rfl, X.out⟩
end Go.Proofs.Yteiknefajlocoaa
