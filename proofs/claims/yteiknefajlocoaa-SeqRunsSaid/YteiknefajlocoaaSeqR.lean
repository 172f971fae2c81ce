/- The walk of SeqRuns. -/
import Derived.Test.YteiknefajlocoaaSeq7
import Derived.Test.YteiknefajlocoaaRef3e
namespace Go.Proofs.Yteiknefajlocoaa
open Go.ChangeShapes Go.WideShapes Go.ChangeAt Go.RowKit
set_option linter.unusedVariables false
set_option linter.unusedSimpArgs false

/-- what is shown, spelt out -/
theorem shown_parts {w : World} {v : Value} {fin value : Int} {steps : Nat} {seen : List LSee} {mem : List (List Int)} (h : ShownAt w v fin value steps seen mem) :
    ∃ a c b d, v = .agg #[.int .i64 fin, .int .i64 value, .int .i64 steps, .slice a seen.length c, .slice b mem.length d] := by
  obtain ⟨vs, vm, rfl, ⟨oa, cap, b, o, rfl, -⟩, ⟨ob, capb, b2, o2, rfl, -⟩⟩ := h
  exact ⟨_, _, _, _, rfl⟩
set_option maxRecDepth 100000 in
set_option maxHeartbeats 4000000 in
theorem seqRuns_walk {p : LProg} {v : Value} {m : List (List Int)} {vm : Value} {w : World} (hp : ProgAt w v p) (hm : MemAt w vm m) (fuel : Int) (hf : R64 fuel) :
    Calls Try.prog 6 #[v, vm, .int .i64 fuel] w fun e w' => e = .returned (.bool true) ∧ Ext w w' := by
  have HP := Lib.hid hp
  have HM := Lib.hid hm
  have Hf := Lib.hid hf
  obtain ⟨a0, a1, a2, b0, b1, b2, rfl⟩ := prog_sl hp
  clear hp hm
  by_cases hq : 4000 < fuel ∧ fuel ≤ 40000
  · obtain ⟨q1, q2⟩ := hq
    go_enter Try.func6, Try.ntmps6
    go_wp2
    go_ret
    exact ⟨rfl, (Ext.refl _).alloc _⟩
  have hq' : fuel ≤ 4000 ∨ 40000 < fuel := by omega
  have hd : decide (4000 < fuel) = false ∨ (decide (4000 < fuel) = true ∧ decide (fuel ≤ 40000) = false) := by
    rcases hq' with h | h
    · exact .inl (decide_eq_false (by omega))
    · exact .inr ⟨decide_eq_true (by omega), decide_eq_false (by omega)⟩
  clear hq hq'
  go_enter Try.func6, Try.ntmps6
  rcases hd with hd | ⟨hd, hd2⟩
  all_goals
    go_wp2_with fail
    obtain ⟨W, gp, hg, hW, hx, bA⟩ := block1 w #[.slice a0 a1 a2, .slice b0 b1 b2] 25
    rw [hW, hg]
    have X := Lib.hid hx
    clear hW hg hx
    have C := run_c p m fuel _ vm W (HP.out.ext X.out) (HM.out.ext X.out) Hf.out
    (with_reducible refine C.mono ?_)
    clear C
    rintro e w1 ⟨u, rfl, hx, hA, hB⟩
    have X := Lib.hid (X.out.trans hx)
    have bA := bA.ext hx
    have hgpl := bA.lt
    clear hx
    by_cases h0 : mayE p m fuel = 0
    · have HS := Lib.hid (hA h0)
      have H0 := Lib.hid h0
      obtain ⟨hh, hfit, hf0, hf4⟩ := mayE_ok h0
      have Hh := Lib.hid hh
      have Hfit := Lib.hid hfit
      generalize hF : runM p fuel.toNat (start m.flatten) = F at HS
      have HF := Lib.hid hF
      obtain ⟨s1, s2, s3, s4, rfl⟩ := shown_parts HS.out
      rw [h0]
      have c0 : w1.cell? ⟨gp, 0, none⟩ = some (.slice a0 a1 a2) := by rw [bA.cell]; rfl
      have c1 : w1.cell? ⟨gp, 1, none⟩ = some (.slice b0 b1 b2) := by rw [bA.cell]; rfl
      clear hA hB h0 hh hfit hF hd
      go_wp2_with fail
      obtain ⟨w2, gs, hg, hW, hx, bS⟩ := block1 w1 #[.int .i64 F.fin, .int .i64 F.value, .int .i64 F.steps, .slice s1 F.seen.length s2, .slice s3 (splitW p F.words).length s4] 36
      rw [hW, hg]
      have X := Lib.hid (X.out.trans hx)
      have HS := Lib.hid (HS.out.ext hx)
      have bA := bA.ext hx
      have C := wrong3_c p m fuel _ vm w2 (HP.out.ext X.out) (HM.out.ext X.out) Hf.out
      rw [H0.out] at C
      clear hW hg hx c0 c1
      (with_reducible refine C.mono ?_)
      clear C
      rintro e w3 ⟨rfl, hx⟩
      have X := Lib.hid (X.out.trans hx)
      have HS := Lib.hid (HS.out.ext hx)
      have bA := bA.ext hx
      have bS := bS.ext hx
      have c0 : w3.cell? ⟨gp, 0, none⟩ = some (.slice a0 a1 a2) := by rw [bA.cell]; rfl
      have c1 : w3.cell? ⟨gp, 1, none⟩ = some (.slice b0 b1 b2) := by rw [bA.cell]; rfl
      clear hx
      go_wp2_with fail
      have C := rPlay_c p m fuel _ vm w3 (HP.out.ext X.out) (HM.out.ext X.out) Hh.out Hfit.out hf4 Hf.out
      rw [HF.out] at C
      (with_reducible refine C.mono ?_)
      clear C
      rintro e w4 ⟨u2, rfl, hS2, hx⟩
      have X := Lib.hid (X.out.trans hx)
      have HS := Lib.hid (HS.out.ext hx)
      have HS2 := Lib.hid hS2
      obtain ⟨t1, t2, t3, t4, rfl⟩ := shown_parts hS2
      have bS := bS.ext hx
      have s0 : w4.cell? ⟨gs, 0, none⟩ = some (.int .i64 F.fin) := by rw [bS.cell]; rfl
      have s1' : w4.cell? ⟨gs, 1, none⟩ = some (.int .i64 F.value) := by rw [bS.cell]; rfl
      have s2' : w4.cell? ⟨gs, 2, none⟩ = some (.int .i64 F.steps) := by rw [bS.cell]; rfl
      have s3' : w4.cell? ⟨gs, 3, none⟩ = some (.slice s1 F.seen.length s2) := by rw [bS.cell]; rfl
      have s4' : w4.cell? ⟨gs, 4, none⟩ = some (.slice s3 (splitW p F.words).length s4) := by rw [bS.cell]; rfl
      have hgsl := bS.lt
      clear hx hS2 bA bS c0 c1
      go_wp2_with fail
      have hx : Ext w4 (w4.alloc (.cells #[.int .i64 F.fin, .int .i64 F.value, .int .i64 F.steps, .slice t1 F.seen.length t2, .slice t3 (splitW p F.words).length t4] 36)) := (Ext.refl _).alloc _
      have C := rSame3_c _ _ _ _ _ _ _ _ (HS.out.ext hx) (HS2.out.ext hx)
      (with_reducible refine C.mono ?_)
      clear C
      rintro e w5 ⟨rfl, hx5⟩
      have X := Lib.hid ((X.out.trans hx).trans hx5)
      clear hx5 hx s0 s1' s2' s3' s4'
      go_wp2
      go_ret
      exact ⟨rfl, X.out⟩
    · have HS := Lib.hid (hB h0)
      have Hc := Lib.hid (rfl : mayE p m fuel = mayE p m fuel)
      have C0 := fun W (X : Ext w W) => wrong3_c p m fuel _ vm W (HP.out.ext X) (HM.out.ext X) Hf.out
      have hne : (mayE p m fuel != 0) = true := by simpa using h0
      have heq : (mayE p m fuel == mayE p m fuel) = true := by simp
      clear hA hB h0 hd
      generalize mayE p m fuel = c at *
      have C0 := Lib.hid C0
      obtain ⟨s1, s2, s3, s4, rfl⟩ := shown_parts HS.out
      have c0 : w1.cell? ⟨gp, 0, none⟩ = some (.slice a0 a1 a2) := by rw [bA.cell]; rfl
      have c1 : w1.cell? ⟨gp, 1, none⟩ = some (.slice b0 b1 b2) := by rw [bA.cell]; rfl
      go_wp2_with fail
      obtain ⟨w2, gs, hg, hW, hx, bS⟩ := block1 w1 #[.int .i64 0, .int .i64 0, .int .i64 0, .slice s1 0 s2, .slice s3 0 s4] 36
      rw [hW, hg]
      have X := Lib.hid (X.out.trans hx)
      have HS := Lib.hid (HS.out.ext hx)
      (with_reducible refine (C0.out w2 X.out).mono ?_)
      clear C0 hW hg hx c0 c1 bA
      rintro e w3 ⟨rfl, hx⟩
      have X := Lib.hid (X.out.trans hx)
      have HS := Lib.hid (HS.out.ext hx)
      have bS := bS.ext hx
      have s0 : w3.cell? ⟨gs, 0, none⟩ = some (.int .i64 0) := by rw [bS.cell]; rfl
      have s1' : w3.cell? ⟨gs, 1, none⟩ = some (.int .i64 0) := by rw [bS.cell]; rfl
      have s2' : w3.cell? ⟨gs, 2, none⟩ = some (.int .i64 0) := by rw [bS.cell]; rfl
      have s3' : w3.cell? ⟨gs, 3, none⟩ = some (.slice s1 0 s2) := by rw [bS.cell]; rfl
      have s4' : w3.cell? ⟨gs, 4, none⟩ = some (.slice s3 0 s4) := by rw [bS.cell]; rfl
      clear hx bS
      go_wp2_with fail
      have C : Calls Try.prog 33 #[.agg #[.int .i64 0, .int .i64 0, .int .i64 0, .slice s1 0 s2, .slice s3 0 s4], .agg #[.int .i64 0, .int .i64 0, .int .i64 0, .slice none 0 0, .slice none 0 0]] w3 (fun e w' => e = .returned (.bool true) ∧ Ext w3 w') := rSame3_c _ _ 0 0 0 [] [] w3 HS.out (shown_nil w3)
      (with_reducible refine C.mono ?_)
      clear C
      rintro e w5 ⟨rfl, hx5⟩
      have X := Lib.hid (X.out.trans hx5)
      clear hx5 s0 s1' s2' s3' s4'
      go_wp2
      go_ret
      exact ⟨rfl, X.out⟩
end Go.Proofs.Yteiknefajlocoaa
