/- Laid together from: Seq7, Ref3e, SeqN. -/
import Derived.Test.YteiknefajlocoaaSeqLongerB17
import Derived.Test.YteiknefajlocoaaSeqLongerB19
import Derived.Test.YteiknefajlocoaaSeqLongerB20
import Derived.Test.YteiknefajlocoaaSeqLongerB14

/- Walks of the program's May and Run, and of the reference's Wrong. -/
namespace Go.Proofs.Yteiknefajlocoaa
open Go.ChangeShapes Go.WideShapes Go.ChangeAt Go.RowKit
set_option linter.unusedVariables false
set_option linter.unusedSimpArgs false

/-- what is wrong with a run first -/
def mayE (p : LProg) (m : List (List Int)) (fuel : Int) : Int := if (hardOk p && fitsOk p m) = false then 2 else if fuel < 0 ∨ 40000 < fuel then 3 else 0
theorem mayE_ok {p : LProg} {m : List (List Int)} {fuel : Int} (h : mayE p m fuel = 0) : hardOk p = true ∧ fitsOk p m = true ∧ 0 ≤ fuel ∧ fuel ≤ 40000 := by
  unfold mayE at h
  split at h
  · cases h
  · rename_i h1
    split at h
    · cases h
    · rename_i h2
      simp only [Bool.not_eq_false, Bool.and_eq_true] at h1
      exact ⟨h1.1, h1.2, by omega, by omega⟩
set_option maxHeartbeats 1000000 in
theorem may3_c (p : LProg) (m : List (List Int)) (fuel : Int) (v vm : Value) (w : World) (hp : ProgAt w v p) (hm : MemAt w vm m) (hf : R64 fuel) :
    Calls Try.prog 69 #[v, vm, .int .i64 fuel] w fun e w' => e = .returned (.int .i64 (mayE p m fuel)) ∧ Ext w w' := by
  have HP := Lib.hid hp
  have HM := Lib.hid hm
  obtain ⟨a0, a1, a2, b0, b1, b2, rfl⟩ := prog_sl hp
  have hf0 := hf.1
  have hf1 := hf.2
  clear hp hm
  go_enter Try.func69, Try.ntmps69
  go_wp2_with fail
  obtain ⟨W, g, hg, hW, hx, bA⟩ := block1 w #[.slice a0 a1 a2, .slice b0 b1 b2] 25
  rw [hW, hg]
  have X := Lib.hid hx
  clear hW hg hx
  have C := hard_c p _ W (HP.out.ext X.out)
  cases hh : hardOk p
  · rw [hh] at C
    have Hh := Lib.hid hh
    clear hh
    (with_reducible refine C.mono ?_)
    rintro e w1 ⟨rfl, h1⟩
    have X := Lib.hid (X.out.trans h1)
    clear h1 C
    go_wp2
    go_ret
    exact ⟨ret_i (by unfold mayE; simp [Hh.out]), X.out⟩
  rw [hh] at C
  have Hh := Lib.hid hh
  clear hh
  (with_reducible refine C.mono ?_)
  rintro e w1 ⟨rfl, h1⟩
  have bA := bA.ext h1
  have X := Lib.hid (X.out.trans h1)
  have c0 : w1.cell? ⟨g, 0, none⟩ = some (.slice a0 a1 a2) := by rw [bA.cell]; rfl
  have c1 : w1.cell? ⟨g, 1, none⟩ = some (.slice b0 b1 b2) := by rw [bA.cell]; rfl
  clear h1 C
  go_wp2_with fail
  have C := lFits_c p _ m vm w1 (HP.out.ext X.out) (HM.out.ext X.out)
  cases hh : fitsOk p m
  · rw [hh] at C
    have Hf := Lib.hid hh
    clear hh
    (with_reducible refine C.mono ?_)
    rintro e w2 ⟨rfl, h1⟩
    have X := Lib.hid (X.out.trans h1)
    clear h1 C
    go_wp2
    go_ret
    exact ⟨ret_i (by unfold mayE; simp [Hf.out]), X.out⟩
  rw [hh] at C
  have Hf := Lib.hid hh
  clear hh
  (with_reducible refine C.mono ?_)
  rintro e w2 ⟨rfl, h1⟩
  have X := Lib.hid (X.out.trans h1)
  clear h1 C c0 c1
  by_cases q0 : fuel < 0
  · have Q := Lib.hid q0
    go_wp2
    go_ret
    exact ⟨ret_i (by unfold mayE; simp [Hh.out, Hf.out, Q.out]), X.out⟩
  have q0d : decide (fuel < 0) = false := by simpa using q0
  by_cases q1 : 40000 < fuel
  · have Q := Lib.hid q1
    go_wp2
    go_ret
    exact ⟨ret_i (by unfold mayE; simp [Hh.out, Hf.out, Q.out]), X.out⟩
  have q1d : decide (40000 < fuel) = false := by simpa using q1
  have Q := Lib.hid (show ¬ (fuel < 0 ∨ 40000 < fuel) by omega)
  go_wp2
  go_ret
  exact ⟨ret_i (by unfold mayE; rw [if_neg (by simp [Hh.out, Hf.out]), if_neg Q.out]), X.out⟩

set_option maxHeartbeats 1000000 in
theorem wrong3_c (p : LProg) (m : List (List Int)) (fuel : Int) (v vm : Value) (w : World) (hp : ProgAt w v p) (hm : MemAt w vm m) (hf : R64 fuel) :
    Calls Try.prog 32 #[v, vm, .int .i64 fuel] w fun e w' => e = .returned (.int .i64 (mayE p m fuel)) ∧ Ext w w' := by
  have HP := Lib.hid hp
  have HM := Lib.hid hm
  obtain ⟨a0, a1, a2, b0, b1, b2, rfl⟩ := prog_sl hp
  have hf0 := hf.1
  have hf1 := hf.2
  clear hp hm
  go_enter Try.func32, Try.ntmps32
  go_wp2_with fail
  obtain ⟨W, g, hg, hW, hx, bA⟩ := block1 w #[.slice a0 a1 a2, .slice b0 b1 b2] 25
  rw [hW, hg]
  have X := Lib.hid hx
  clear hW hg hx
  have C := rHard_c p _ W (HP.out.ext X.out)
  cases hh : hardOk p
  · rw [hh] at C
    have Hh := Lib.hid hh
    clear hh
    (with_reducible refine C.mono ?_)
    rintro e w1 ⟨rfl, h1⟩
    have X := Lib.hid (X.out.trans h1)
    clear h1 C
    go_wp2
    go_ret
    exact ⟨ret_i (by unfold mayE; simp [Hh.out]), X.out⟩
  rw [hh] at C
  have Hh := Lib.hid hh
  clear hh
  (with_reducible refine C.mono ?_)
  rintro e w1 ⟨rfl, h1⟩
  have bA := bA.ext h1
  have X := Lib.hid (X.out.trans h1)
  have c0 : w1.cell? ⟨g, 0, none⟩ = some (.slice a0 a1 a2) := by rw [bA.cell]; rfl
  have c1 : w1.cell? ⟨g, 1, none⟩ = some (.slice b0 b1 b2) := by rw [bA.cell]; rfl
  clear h1 C
  go_wp2_with fail
  have C := rFits_c p _ m vm w1 (HP.out.ext X.out) (HM.out.ext X.out)
  cases hh : fitsOk p m
  · rw [hh] at C
    have Hf := Lib.hid hh
    clear hh
    (with_reducible refine C.mono ?_)
    rintro e w2 ⟨rfl, h1⟩
    have X := Lib.hid (X.out.trans h1)
    clear h1 C
    go_wp2
    go_ret
    exact ⟨ret_i (by unfold mayE; simp [Hf.out]), X.out⟩
  rw [hh] at C
  have Hf := Lib.hid hh
  clear hh
  (with_reducible refine C.mono ?_)
  rintro e w2 ⟨rfl, h1⟩
  have X := Lib.hid (X.out.trans h1)
  clear h1 C c0 c1
  by_cases q0 : fuel < 0
  · have Q := Lib.hid q0
    go_wp2
    go_ret
    exact ⟨ret_i (by unfold mayE; simp [Hh.out, Hf.out, Q.out]), X.out⟩
  have q0d : decide (fuel < 0) = false := by simpa using q0
  by_cases q1 : 40000 < fuel
  · have Q := Lib.hid q1
    go_wp2
    go_ret
    exact ⟨ret_i (by unfold mayE; simp [Hh.out, Hf.out, Q.out]), X.out⟩
  have q1d : decide (40000 < fuel) = false := by simpa using q1
  have Q := Lib.hid (show ¬ (fuel < 0 ∨ 40000 < fuel) by omega)
  go_wp2
  go_ret
  exact ⟨ret_i (by unfold mayE; rw [if_neg (by simp [Hh.out, Hf.out]), if_neg Q.out]), X.out⟩

theorem results_ct {P : Program} {w : World} {g : Nat} {T t p ty : Nat} {cs : Array Value} {fn : Func} {d : TypeDesc} {v : Value} (h : Blk w g T cs) (hr : fn.results = #[.cell p ty, .tmp t]) (tmps : Array Value) (ht : tmps.getD t undef = v) (hp : tmps.getD p undef = .pointer (some ⟨g, 0, none⟩))
    (hu : P.underlying ty = some d) (hd : d.isRow = true) (hi : (P.info? ty).map (·.size) = some cs.size) : (results fn tmps).run P w = .ok (.tuple #[.agg cs, v]) w := by
  have hp' : tmps[p]?.getD undef = .pointer (some ⟨g, 0, none⟩) := by simpa using hp
  have ht' : tmps[t]?.getD undef = v := by simpa using ht
  have hc : w.rangeAt g 0 cs.toList := h.range 0 cs.toList (fun j v hv => by simpa using hv)
  have := run_loadVar_mid w g 0 ty cs.toList d hc hu hd (by simpa using hi)
  simp only [Array.toArray_toList] at this
  simp [results, hr, hp', ht', asAddr, this]
def machSteps (w : World) (g : Nat) : Nat := match w.cell? ⟨g, 4, none⟩ with
  | some (.int _ n) => n.toNat
  | _ => 0
theorem machSteps_of {w : World} {B g : Nat} {vR vC vM vB vS vW : Value} {bases : List Int} {M : Mach} (h : MSt w B g vR vC vM vB vS vW bases M) : machSteps w g = M.steps := by
  unfold machSteps
  rw [h.cells.2.2.2.2.1.1]
  simp
def RunPost (p : LProg) (m : List (List Int)) (fuel : Int) (F : Mach) (w : World) (e : Ending) (w' : World) : Prop :=
  ∃ u, e = .returned (.tuple #[u, .int .i64 (mayE p m fuel)]) ∧ Ext w w' ∧ (mayE p m fuel = 0 → ShownAt w' u F.fin F.value F.steps F.seen (splitW p F.words)) ∧ (mayE p m fuel ≠ 0 → ShownAt w' u 0 0 0 [] [])
theorem mem_at_nil (w : World) : MemAt w (.slice none 0 0) [] := ⟨none, 0, 0, 0, rfl, by simp, by decide, fun _ => undef, ⟨fun h => by simp at h, fun i j hi hj => by simp at hi⟩, fun i hi => by simp at hi⟩
theorem shown_nil (w : World) : ShownAt w (.agg #[.int .i64 0, .int .i64 0, .int .i64 0, .slice none 0 0, .slice none 0 0]) 0 0 0 [] [] := ⟨_, _, rfl, seen_nil w, mem_at_nil w⟩
/-- a result of five cells, put into block r, which is older than what it shows -/
theorem shown_put {p : LProg} {F : Mach} {wB w0 w1 : World} {r : Nat} {vs vm x0 x1 x2 x3 x4 : Value} (hS : ShownOwn w1 wB.heap.size (.agg #[.int .i64 F.fin, .int .i64 F.value, .int .i64 F.steps, vs, vm]) F.fin F.value F.steps F.seen (splitW p F.words)) (h64 : All64 F.words)
    (hR : Blk w1 r 36 #[x0, x1, x2, x3, x4]) (hr : r < wB.heap.size) (hr0 : w0.heap.size ≤ r) (hx : Ext w0 wB) (hx1 : Ext wB w1) {w2 : World}
    (hw : w2 = ((((w1.setCell ⟨r, 0, none⟩ (.int .i64 F.fin)).setCell ⟨r, 1, none⟩ (.int .i64 F.value)).setCell ⟨r, 2, none⟩ (.int .i64 F.steps)).setCell ⟨r, 3, none⟩ vs).setCell ⟨r, 4, none⟩ vm) :
    Blk w2 r 36 #[.int .i64 F.fin, .int .i64 F.value, .int .i64 F.steps, vs, vm] ∧ ShownAt w2 (.agg #[.int .i64 F.fin, .int .i64 F.value, .int .i64 F.steps, vs, vm]) F.fin F.value F.steps F.seen (splitW p F.words) ∧ Ext w0 w2 := by
  subst hw
  refine ⟨((((hR.set_ 0 _).set_ 1 _).set_ 2 _).set_ 3 _).set_ 4 _, ?_, ?_⟩
  · exact (((((hS.far (p := ⟨r, 0, none⟩) hr _).far (p := ⟨r, 1, none⟩) hr _).far (p := ⟨r, 2, none⟩) hr _).far (p := ⟨r, 3, none⟩) hr _).far (p := ⟨r, 4, none⟩) hr _).at_ (words_all p _ R64 h64.mem)
  · exact (((((hx.trans hx1).setCell hr0 _).setCell hr0 _).setCell hr0 _).setCell hr0 _).setCell hr0 _
set_option maxRecDepth 100000 in
set_option maxHeartbeats 8000000 in
theorem run_c (p : LProg) (m : List (List Int)) (fuel : Int) (v vm : Value) (w : World) (hp : ProgAt w v p) (hm : MemAt w vm m) (hf : R64 fuel) :
    Calls Try.prog 31 #[v, vm, .int .i64 fuel] w (RunPost p m fuel (runM p fuel.toNat (start m.flatten)) w) := by
  have hm64 : ∀ l ∈ m, ∀ x ∈ l, R64 x := by
    obtain ⟨oa, cap, b, o, rfl, hc1, hc2, vs0, hrow, hin⟩ := hm
    intro l hl x hx
    obtain ⟨i, hi, rfl⟩ := List.getElem_of_mem hl
    have := (hin i hi).1
    simp only [List.getD_eq_getElem?_getD, List.getElem?_eq_getElem hi, Option.getD_some] at this
    exact this x hx
  have HP := Lib.hid hp
  have HM := Lib.hid hm
  have Hm64 := Lib.hid hm64
  have Hf := Lib.hid hf
  obtain ⟨o1, s1, o2, s2, rfl⟩ : ∃ a c b d, v = .agg #[.slice a p.regs.length c, .slice b p.code.length d] := by
    obtain ⟨v1, v2, rfl, ⟨-, oa, cap, b, o, rfl, -⟩, ⟨-, ob, capb, b2, o2, rfl, -⟩⟩ := hp
    exact ⟨_, _, _, _, rfl⟩
  clear hp hm hm64 hf
  generalize hF : runM p fuel.toNat (start m.flatten) = F
  have HF := Lib.hid hF
  clear hF
  go_enter Try.func31, Try.ntmps31
  go_wp2_with fail
  obtain ⟨W, gb, hg, hW, hx, bP, bR⟩ := blocks2 w #[.slice o1 p.regs.length s1, .slice o2 p.code.length s2] #[.int .i64 0, .int .i64 0, .int .i64 0, .slice none 0 0, .slice none 0 0] 25 36
  rw [hW, hg]
  have X := Lib.hid hx
  have hgb : w.heap.size ≤ gb := by omega
  clear hW hg hx
  have C := may3_c p m fuel _ vm W (HP.out.ext X.out) (HM.out.ext X.out) Hf.out
  (with_reducible refine C.mono ?_)
  clear C
  rintro e w1 ⟨rfl, hx⟩
  have bP := bP.ext hx
  have bR := bR.ext hx
  have X := Lib.hid (X.out.trans hx)
  have Hb := Lib.hid hgb
  have c0 : w1.cell? ⟨gb, 0, none⟩ = some (.slice o1 p.regs.length s1) := by rw [bP.cell]; rfl
  have c1 : w1.cell? ⟨gb, 1, none⟩ = some (.slice o2 p.code.length s2) := by rw [bP.cell]; rfl
  have r0 : w1.cell? ⟨gb + 1, 0, none⟩ = some (.int .i64 0) ∧ w1.frozen? ⟨gb + 1, 0, none⟩ = false := ⟨by rw [bR.cell]; rfl, bR.frozen _⟩
  have r1 : w1.cell? ⟨gb + 1, 1, none⟩ = some (.int .i64 0) ∧ w1.frozen? ⟨gb + 1, 1, none⟩ = false := ⟨by rw [bR.cell]; rfl, bR.frozen _⟩
  have r2 : w1.cell? ⟨gb + 1, 2, none⟩ = some (.int .i64 0) ∧ w1.frozen? ⟨gb + 1, 2, none⟩ = false := ⟨by rw [bR.cell]; rfl, bR.frozen _⟩
  have r3 : w1.cell? ⟨gb + 1, 3, none⟩ = some (.slice none 0 0) ∧ w1.frozen? ⟨gb + 1, 3, none⟩ = false := ⟨by rw [bR.cell]; rfl, bR.frozen _⟩
  have r4 : w1.cell? ⟨gb + 1, 4, none⟩ = some (.slice none 0 0) ∧ w1.frozen? ⟨gb + 1, 4, none⟩ = false := ⟨by rw [bR.cell]; rfl, bR.frozen _⟩
  clear hx hgb
  by_cases h0 : mayE p m fuel = 0
  · obtain ⟨hh, hfit, hf0, hf4⟩ := mayE_ok h0
    have H0 := Lib.hid h0
    have Hh := Lib.hid hh
    have Hfit := Lib.hid hfit
    have Hgood := Lib.hid (mgood_start hfit Hm64.out)
    rw [h0]
    go_wp2_with fail
    have hr := (hard_parts hh).1
    have Hr := Lib.hid hr
    have C := begin_c p m (.slice o1 p.regs.length s1) (.slice o2 p.code.length s2) vm w1 (HM.out.ext X.out) hfit hr
    clear h0 hh hfit hr r0 r1 r2 r3 r4
    (with_reducible refine C.mono ?_)
    clear C
    rintro e w2 ⟨g, vB, vW, rfl, P0, hx0⟩
    have P0 := Lib.hid P0
    have X0 := Lib.hid hx0
    have BP0 := Lib.hid bP
    have BR0 := Lib.hid bR
    have Hfits : Hid (∀ i ∈ p.code, i.fits) := Lib.hid (by
      obtain ⟨v1, v2, hv, h1, h2⟩ := HP.out
      exact h2.1)
    have hrl := bR.lt
    clear hx0 c0 c1 bP bR
    go_wp2_with fail
    go_loopw [] (fun wr => ∃ (M : Mach) (vS : Value), M.steps ≤ fuel.toNat ∧ MGood p M ∧ runM p (fuel.toNat - M.steps) M = F ∧ MSt wr w1.heap.size g (.slice o1 p.regs.length s1) (.slice o2 p.code.length s2) (.slice none 0 0) vB vS vW (basesOf p) M ∧ Ext w1 wr) (fun wr => fuel.toNat - machSteps wr g)
    case atStart =>
      exact ⟨start m.flatten, _, by simp [start], Hgood.out, by simpa [start] using HF.out, P0.out, X0.out⟩
    case round =>
      obtain ⟨M, vS, hst, hgo, hrun, P, hE⟩ := hrel
      have Hgo := Lib.hid hgo
      have Hrun := Lib.hid hrun
      have PP := Lib.hid P
      have XE := Lib.hid hE
      have bP := BP0.out.ext hE
      have c1 : wr.cell? ⟨gb, 1, none⟩ = some (.slice o2 p.code.length s2) := by rw [bP.cell]; rfl
      obtain ⟨-, -, g2, -, g4, -, -, -, g18, -⟩ := P.cells
      have hgl := P.box.lt
      have hatle := hgo.at_
      have hsl := hgo.seen
      have Hmeas := Lib.hid (machSteps_of P)
      clear hgo hrun P hE bP
      by_cases hfin : M.fin = 0
      · have Hfin := Lib.hid hfin
        rw [hfin] at g2
        clear hfin
        by_cases hlt : (M.steps : Int) < fuel
        · by_cases hat : M.at_ < p.code.length
          · have Hi := Lib.hid (show p.code[M.at_]? = some (p.code.getD M.at_ default) by simp [hat])
            have Hfi := Lib.hid (Hfits.out _ (getD_mem hat))
            have hiok := (hard_parts Hh.out).2.2.2 _ (getD_mem hat)
            generalize p.code.getD M.at_ default = i at *
            have hN := Lib.hid (play_next Hgo.out Hi.out hiok Hfi.out (show M.steps < fuel.toNat by omega) Hfin.out Hrun.out)
            go_upto_region 6 with fail
            have k18 : ∀ W, Ext wr W → W.cell? ⟨g, 18, none⟩ = some (.int .i64 (M.at_ : Int)) := fun _ h => h.kept g18.1
            have k1 : ∀ W, Ext wr W → W.cell? ⟨gb, 1, none⟩ = some (.slice o2 p.code.length s2) := fun _ h => h.kept c1
            refine region_calm 9 (by kernel_rfl) (by kernel_rfl) ?_
            simp only [List.take_succ_cons, List.take_zero, List.drop_succ_cons, List.drop_zero]
            repeat (first | (refine calm_fresh ?_ ?_ (fun wc hE => ?_) ?_; (decide); rfl; (focus (go_simp; done)); go_simp) | (refine calm_value ?_ ?_ ?_; (decide); (first | rfl | (focus (go_simp; done))); apply Exists.intro; refine ⟨fun wc hE => ?_, ?_⟩; (go_simp; exact rfl); go_simp) | (refine calm_call ?_ ?_ ?_; (decide); (first | rfl | (focus (go_simp; done))); apply Exists.intro; refine ⟨fun wc hE => ?_, ?_⟩; (go_simp; (first | fail)); go_simp) | (refine calm_skip ?_ ?_ ?_; (decide); (focus (go_simp; done)); go_simp))
            refine calm_nil ?_
            intro wx hx
            clear k18 k1
            have PP := Lib.hid (PP.out.ext hx)
            have XE := Lib.hid (XE.out.trans hx)
            have g2 := kept2 hx g2
            have hgl := PP.out.box.lt
            clear hx
            have C := step_c p i Hi.out Hh.out Hfi.out Hgo.out.ok (by omega) (by omega) wx (HP.out.ext X.out) XE.out PP.out
            have C := Lib.hid C
            have Hms : Hid ((stepM p i M).steps = M.steps + 1) := Lib.hid (stepM_steps p i M)
            clear hiok
            go_wp2_with fail
            (with_reducible refine C.out.mono ?_)
            clear C
            rintro e w3 ⟨rfl, vS3, P3, X3⟩
            have P3 := Lib.hid P3
            have X3 := Lib.hid X3
            clear g2 g4 g18 c1
            go_wp2
            go_roundw
            case rel => exact ⟨stepM p i M, vS3, hN.out.2.1, hN.out.1, hN.out.2.2, P3.out, X3.out⟩
            case measure =>
              have e1 := Hmeas.out
              have e2 := machSteps_of P3.out
              have e3 := Hms.out
              rw [e1, e2]; omega
          · have hate : decide ((p.code.length : Int) ≤ (M.at_ : Int)) = true := by simp; omega
            have Hlast : Hid (F = { M with fin := 2 }) := Lib.hid (by rw [← Hrun.out]; exact runM_stop (by omega) Hfin.out (by simp; omega))
            go_upto_region 6 with fail
            have k18 : ∀ W, Ext wr W → W.cell? ⟨g, 18, none⟩ = some (.int .i64 (M.at_ : Int)) := fun _ h => h.kept g18.1
            have k1 : ∀ W, Ext wr W → W.cell? ⟨gb, 1, none⟩ = some (.slice o2 p.code.length s2) := fun _ h => h.kept c1
            refine region_calm 9 (by kernel_rfl) (by kernel_rfl) ?_
            simp only [List.take_succ_cons, List.take_zero, List.drop_succ_cons, List.drop_zero]
            repeat (first | (refine calm_fresh ?_ ?_ (fun wc hE => ?_) ?_; (decide); rfl; (focus (go_simp; done)); go_simp) | (refine calm_value ?_ ?_ ?_; (decide); (first | rfl | (focus (go_simp; done))); apply Exists.intro; refine ⟨fun wc hE => ?_, ?_⟩; (go_simp; exact rfl); go_simp) | (refine calm_call ?_ ?_ ?_; (decide); (first | rfl | (focus (go_simp; done))); apply Exists.intro; refine ⟨fun wc hE => ?_, ?_⟩; (go_simp; (first | fail)); go_simp) | (refine calm_skip ?_ ?_ ?_; (decide); (focus (go_simp; done)); go_simp))
            refine calm_nil ?_
            intro wx hx
            clear k18 k1
            have PP := Lib.hid (PP.out.ext hx)
            have XE := Lib.hid (XE.out.trans hx)
            have g2 := kept2 hx g2
            have hgl := PP.out.box.lt
            clear hx
            have PE := Lib.hid (PP.out.fin_ 2)
            have XE := Lib.hid (XE.out.setCell (p := ⟨g, 2, none⟩) PP.out.hg (.int .i64 2))
            have HOK := Lib.hid (Hgo.out.ok.same (M' := { M with fin := 2 }) rfl rfl)
            have hgl2 : g < (wx.setCell ⟨g, 2, none⟩ (.int .i64 2)).heap.size := by rw [setCell_size]; exact hgl
            go_wp2_with fail
            have C := done_c p Hr.out HOK.out _ (HP.out.ext X.out) XE.out PE.out
            (with_reducible refine C.mono ?_)
            clear C
            rintro e w4 ⟨u, rfl, hu, hx4⟩
            have HU := Lib.hid hu
            obtain ⟨vs, vm', U, rfl, hs1, hs2⟩ := hu
            obtain ⟨os, osc, rfl⟩ := own_slice hs1
            obtain ⟨om, omk, omc, rfl⟩ : ∃ a b c, vm' = .slice a b c := by
              obtain ⟨vs, h1, h2, -⟩ := hs2
              obtain ⟨a, c, h⟩ := own_slice h2
              exact ⟨a, _, c, h⟩
            have bR4 := BR0.out.ext hx4
            have r0 : w4.cell? ⟨gb + 1, 0, none⟩ = some (.int .i64 0) ∧ w4.frozen? ⟨gb + 1, 0, none⟩ = false := ⟨by rw [bR4.cell]; rfl, bR4.frozen _⟩
            have r1 : w4.cell? ⟨gb + 1, 1, none⟩ = some (.int .i64 0) ∧ w4.frozen? ⟨gb + 1, 1, none⟩ = false := ⟨by rw [bR4.cell]; rfl, bR4.frozen _⟩
            have r2 : w4.cell? ⟨gb + 1, 2, none⟩ = some (.int .i64 0) ∧ w4.frozen? ⟨gb + 1, 2, none⟩ = false := ⟨by rw [bR4.cell]; rfl, bR4.frozen _⟩
            have r3 : w4.cell? ⟨gb + 1, 3, none⟩ = some (.slice none 0 0) ∧ w4.frozen? ⟨gb + 1, 3, none⟩ = false := ⟨by rw [bR4.cell]; rfl, bR4.frozen _⟩
            have r4 : w4.cell? ⟨gb + 1, 4, none⟩ = some (.slice none 0 0) ∧ w4.frozen? ⟨gb + 1, 4, none⟩ = false := ⟨by rw [bR4.cell]; rfl, bR4.frozen _⟩
            have X4 := Lib.hid hx4
            have HW64 := Lib.hid HOK.out.w64
            clear hs1 hs2 hx4 g2 g4 g18 c1
            go_wp2
            have hE := shown_put (F := { M with fin := 2 }) HU.out HW64.out bR4 hrl (Nat.le_succ_of_le Hb.out) X.out X4.out rfl
            have HE := Lib.hid hE
            clear hE
            refine bodyPost_ret (results_ct (HE.out.1) rfl _ rfl rfl Try.underlying36 rfl (by kernel_rfl)) rfl ⟨_, by rw [H0.out]; rfl, HE.out.2.2, fun _ => ?_, fun h => absurd H0.out h⟩
            rw [Hlast.out]
            exact HE.out.2.1
        · have hlt2 : decide ((M.steps : Int) < fuel) = false := by simpa using hlt
          have Hlast : Hid (F = M) := Lib.hid (by rw [← Hrun.out, show fuel.toNat - M.steps = 0 by omega]; rfl)
          have PE := PP
          have HOK := Lib.hid Hgo.out.ok
          clear hlt
          go_wp2_with fail
          have C := done_c p Hr.out HOK.out _ (HP.out.ext X.out) XE.out PE.out
          (with_reducible refine C.mono ?_)
          clear C
          rintro e w4 ⟨u, rfl, hu, hx4⟩
          have HU := Lib.hid hu
          obtain ⟨vs, vm', U, rfl, hs1, hs2⟩ := hu
          obtain ⟨os, osc, rfl⟩ := own_slice hs1
          obtain ⟨om, omk, omc, rfl⟩ : ∃ a b c, vm' = .slice a b c := by
            obtain ⟨vs, h1, h2, -⟩ := hs2
            obtain ⟨a, c, h⟩ := own_slice h2
            exact ⟨a, _, c, h⟩
          have bR4 := BR0.out.ext hx4
          have r0 : w4.cell? ⟨gb + 1, 0, none⟩ = some (.int .i64 0) ∧ w4.frozen? ⟨gb + 1, 0, none⟩ = false := ⟨by rw [bR4.cell]; rfl, bR4.frozen _⟩
          have r1 : w4.cell? ⟨gb + 1, 1, none⟩ = some (.int .i64 0) ∧ w4.frozen? ⟨gb + 1, 1, none⟩ = false := ⟨by rw [bR4.cell]; rfl, bR4.frozen _⟩
          have r2 : w4.cell? ⟨gb + 1, 2, none⟩ = some (.int .i64 0) ∧ w4.frozen? ⟨gb + 1, 2, none⟩ = false := ⟨by rw [bR4.cell]; rfl, bR4.frozen _⟩
          have r3 : w4.cell? ⟨gb + 1, 3, none⟩ = some (.slice none 0 0) ∧ w4.frozen? ⟨gb + 1, 3, none⟩ = false := ⟨by rw [bR4.cell]; rfl, bR4.frozen _⟩
          have r4 : w4.cell? ⟨gb + 1, 4, none⟩ = some (.slice none 0 0) ∧ w4.frozen? ⟨gb + 1, 4, none⟩ = false := ⟨by rw [bR4.cell]; rfl, bR4.frozen _⟩
          have X4 := Lib.hid hx4
          have HW64 := Lib.hid HOK.out.w64
          clear hs1 hs2 hx4 g2 g4 g18 c1
          go_wp2
          have hE := shown_put (F := M) HU.out HW64.out bR4 hrl (Nat.le_succ_of_le Hb.out) X.out X4.out rfl
          have HE := Lib.hid hE
          clear hE
          refine bodyPost_ret (results_ct (HE.out.1) rfl _ rfl rfl Try.underlying36 rfl (by kernel_rfl)) rfl ⟨_, by rw [H0.out]; rfl, HE.out.2.2, fun _ => ?_, fun h => absurd H0.out h⟩
          rw [Hlast.out]
          exact HE.out.2.1
      · have Hlast : Hid (F = M) := Lib.hid (by rw [← Hrun.out]; exact (runM_end hfin _).symm ▸ rfl)
        have PE := PP
        have HOK := Lib.hid Hgo.out.ok
        have hfd : (M.fin == (0 : Int)) = false := by simpa using hfin
        clear hfin
        go_wp2_with fail
        have C := done_c p Hr.out HOK.out _ (HP.out.ext X.out) XE.out PE.out
        (with_reducible refine C.mono ?_)
        clear C
        rintro e w4 ⟨u, rfl, hu, hx4⟩
        have HU := Lib.hid hu
        obtain ⟨vs, vm', U, rfl, hs1, hs2⟩ := hu
        obtain ⟨os, osc, rfl⟩ := own_slice hs1
        obtain ⟨om, omk, omc, rfl⟩ : ∃ a b c, vm' = .slice a b c := by
          obtain ⟨vs, h1, h2, -⟩ := hs2
          obtain ⟨a, c, h⟩ := own_slice h2
          exact ⟨a, _, c, h⟩
        have bR4 := BR0.out.ext hx4
        have r0 : w4.cell? ⟨gb + 1, 0, none⟩ = some (.int .i64 0) ∧ w4.frozen? ⟨gb + 1, 0, none⟩ = false := ⟨by rw [bR4.cell]; rfl, bR4.frozen _⟩
        have r1 : w4.cell? ⟨gb + 1, 1, none⟩ = some (.int .i64 0) ∧ w4.frozen? ⟨gb + 1, 1, none⟩ = false := ⟨by rw [bR4.cell]; rfl, bR4.frozen _⟩
        have r2 : w4.cell? ⟨gb + 1, 2, none⟩ = some (.int .i64 0) ∧ w4.frozen? ⟨gb + 1, 2, none⟩ = false := ⟨by rw [bR4.cell]; rfl, bR4.frozen _⟩
        have r3 : w4.cell? ⟨gb + 1, 3, none⟩ = some (.slice none 0 0) ∧ w4.frozen? ⟨gb + 1, 3, none⟩ = false := ⟨by rw [bR4.cell]; rfl, bR4.frozen _⟩
        have r4 : w4.cell? ⟨gb + 1, 4, none⟩ = some (.slice none 0 0) ∧ w4.frozen? ⟨gb + 1, 4, none⟩ = false := ⟨by rw [bR4.cell]; rfl, bR4.frozen _⟩
        have X4 := Lib.hid hx4
        have HW64 := Lib.hid HOK.out.w64
        clear hs1 hs2 hx4 g2 g4 g18 c1
        go_wp2
        have hE := shown_put (F := M) HU.out HW64.out bR4 hrl (Nat.le_succ_of_le Hb.out) X.out X4.out rfl
        have HE := Lib.hid hE
        clear hE
        refine bodyPost_ret (results_ct (HE.out.1) rfl _ rfl rfl Try.underlying36 rfl (by kernel_rfl)) rfl ⟨_, by rw [H0.out]; rfl, HE.out.2.2, fun _ => ?_, fun h => absurd H0.out h⟩
        rw [Hlast.out]
        exact HE.out.2.1
  · have H0 := Lib.hid h0
    have hne : (mayE p m fuel != 0) = true := by simpa using h0
    generalize hc : mayE p m fuel = c at *
    clear h0
    go_wp2
    have hBk := ((((bR.set_ 0 (.int .i64 0)).set_ 1 (.int .i64 0)).set_ 2 (.int .i64 0)).set_ 3 (.slice none 0 0)).set_ 4 (.slice none 0 0)
    have hg0 : w.heap.size ≤ gb + 1 := Nat.le_succ_of_le Hb.out
    exact bodyPost_ret (results_ct hBk rfl _ rfl rfl Try.underlying36 rfl (by kernel_rfl)) rfl ⟨_, by rw [hc]; rfl, ((((X.out.setCell hg0 _).setCell hg0 _).setCell hg0 _).setCell hg0 _).setCell hg0 _, fun h => absurd (hc.symm.trans h) H0.out, fun _ => shown_nil _⟩
end Go.Proofs.Yteiknefajlocoaa
/- Walks of the reference's Seen, Memories and Same (chapter 3), of what is the same. -/
namespace Go.Proofs.Yteiknefajlocoaa
open Go.ChangeShapes Go.WideShapes Go.ChangeAt Go.RowKit
set_option linter.unusedVariables false
set_option linter.unusedSimpArgs false

theorem index_see {oa : Option Addr} {n b o cap : Nat} (h : 0 < n → oa = some ⟨b, o, none⟩) (W : World) (i : Int) (h0 : 0 ≤ i) (h1 : i < n) :
    (Instr.indexAt 34 (.slice oa n cap) (.int .i64 i)).run Try.prog W = .ok (.pointer (some ⟨b, o + i.toNat * 3, none⟩)) W := by
  obtain rfl := h (by omega)
  have hs : (Try.prog.info? 98).map (·.size) = some 3 := by kernel_rfl
  simp [Instr.indexAt, run_underlying Try.underlying34, asIntOf, h0, h1]
  exact addr_add b o _
theorem see_ne (a b c : Int) (w : World) : (binOp .neq 98 (.agg #[.int .i64 a, .int .i64 b, .int .i64 c]) (.agg #[.int .i64 a, .int .i64 b, .int .i64 c])).run Try.prog w = .ok (.bool false) w := by
  go_simp
set_option maxHeartbeats 2000000 in
theorem rSeenEq_c (l : List LSee) (v u : Value) (w : World) (hv : SeenAt w v l) (hu : SeenAt w u l) :
    Calls Try.prog 68 #[v, u] w fun e w' => e = .returned (.bool true) ∧ Ext w w' := by
  obtain ⟨oa, cap, b, o, rfl, hc1, hc2, hrow⟩ := hv
  obtain ⟨ob, capb, b2, o2, rfl, hd1, hd2, hrow2⟩ := hu
  have hlen := len_bd hc1 hc2
  have hix := index_see (cap := cap) hrow.at_
  have hix2 := index_see (cap := capb) hrow2.at_
  have Hrow := Lib.hid hrow
  have Hrow2 := Lib.hid hrow2
  have hne := see_ne
  have hq1 : ((l.length : Int) != (l.length : Int)) = false := by simp
  clear hrow hrow2 hc1 hc2 hd1 hd2
  go_enter Try.func68, Try.ntmps68
  go_wp2_with fail
  go_loopw [5] (fun i wr => ∃ j : Nat, j ≤ l.length ∧ i = .int .i64 j ∧ Ext w wr) (fun i _ => l.length - (intOf i).toNat)
  case atStart => exact ⟨0, by omega, rfl, Ext.refl _⟩
  case round =>
    obtain ⟨j, hj, rfl, hE⟩ := hrel
    have X := Lib.hid hE
    clear hE
    by_cases hlt : j < l.length
    · obtain ⟨e0, e1, e2⟩ := (Hrow.out.ext X.out).see j hlt
      obtain ⟨f0, f1, f2⟩ := (Hrow2.out.ext X.out).see j hlt
      generalize l.getD j default = x at *
      have k0 : ∀ W, Ext wr W → W.cell? ⟨b, o + j * 3, none⟩ = some (.int .i64 x.kind) := fun _ h => h.kept e0
      have k1 : ∀ W, Ext wr W → W.cell? ⟨b, o + j * 3 + 1, none⟩ = some (.int .i64 x.a) := fun _ h => h.kept e1
      have k2 : ∀ W, Ext wr W → W.cell? ⟨b, o + j * 3 + 2, none⟩ = some (.int .i64 x.b) := fun _ h => h.kept e2
      have l0 : ∀ W, Ext wr W → W.cell? ⟨b2, o2 + j * 3, none⟩ = some (.int .i64 x.kind) := fun _ h => h.kept f0
      have l1 : ∀ W, Ext wr W → W.cell? ⟨b2, o2 + j * 3 + 1, none⟩ = some (.int .i64 x.a) := fun _ h => h.kept f1
      have l2 : ∀ W, Ext wr W → W.cell? ⟨b2, o2 + j * 3 + 2, none⟩ = some (.int .i64 x.b) := fun _ h => h.kept f2
      clear e0 e1 e2 f0 f1 f2
      go_upto_region 6 with fail
      refine region_calm 9 (by kernel_rfl) (by kernel_rfl) ?_
      simp only [List.take_succ_cons, List.take_zero, List.drop_succ_cons, List.drop_zero]
      repeat (first | (refine calm_fresh ?_ ?_ (fun wc hE => ?_) ?_; (decide); rfl; (focus (go_simp; done)); go_simp) | (refine calm_value ?_ ?_ ?_; (decide); (first | rfl | (focus (go_simp; done))); apply Exists.intro; refine ⟨fun wc hE => ?_, ?_⟩; (go_simp; exact rfl); go_simp) | (refine calm_call ?_ ?_ ?_; (decide); (first | rfl | (focus (go_simp; done))); apply Exists.intro; refine ⟨fun wc hE => ?_, ?_⟩; (go_simp; (first | fail)); go_simp) | (refine calm_skip ?_ ?_ ?_; (decide); (focus (go_simp; done)); go_simp))
      refine calm_nil ?_
      intro wx hx
      have X := Lib.hid (X.out.trans hx)
      clear hx k0 k1 k2 l0 l1 l2
      go_wp2
      go_roundw
      case rel => exact ⟨j + 1, by omega, by go_num, X.out⟩
      case measure => first | (simp [intOf]; done) | (simp [intOf]; omega)
    · go_wp2
      go_ret
      exact ⟨rfl, X.out⟩
theorem i64_ne (x : Int) : (x != x) = false := by simp
set_option maxHeartbeats 4000000 in
theorem rMemEq_c (m : List (List Int)) (v u : Value) (w : World) (hv : MemAt w v m) (hu : MemAt w u m) :
    Calls Try.prog 49 #[v, u] w fun e w' => e = .returned (.bool true) ∧ Ext w w' := by
  obtain ⟨oa, cap, b, o, rfl, hc1, hc2, vs, hrow, hin⟩ := hv
  obtain ⟨ob, capb, b2, o2, rfl, hd1, hd2, us, hrow2, hin2⟩ := hu
  have hlen := len_bd hc1 hc2
  have hix := index_mem' (cap := cap) hrow.at_
  have hix2 := index_mem' (cap := capb) hrow2.at_
  have Hrow := Lib.hid hrow
  have Hrow2 := Lib.hid hrow2
  have Hin := Lib.hid hin
  have Hin2 := Lib.hid hin2
  have hne := i64_ne
  have hq1 : ((m.length : Int) != (m.length : Int)) = false := by simp
  clear hrow hrow2 hc1 hc2 hd1 hd2 hin hin2
  go_enter Try.func49, Try.ntmps49
  go_wp2_with fail
  go_loopw [5] (fun i wr => ∃ j : Nat, j ≤ m.length ∧ i = .int .i64 j ∧ Ext w wr) (fun i _ => m.length - (intOf i).toNat)
  case atStart => exact ⟨0, by omega, rfl, Ext.refl _⟩
  case round =>
    obtain ⟨j, hj, rfl, hE⟩ := hrel
    have X := Lib.hid hE
    clear hE
    by_cases hlt : j < m.length
    · have e0 := (Hrow.out.ext X.out).one j hlt
      have f0 := (Hrow2.out.ext X.out).one j hlt
      have h1 := (Hin.out j hlt).ext X.out
      have h2 := (Hin2.out j hlt).ext X.out
      generalize m.getD j default = l at *
      generalize vs j = vj at *
      generalize us j = uj at *
      obtain ⟨-, oc, capc, b3, o3, rfl, hc3, hc4, r3⟩ := h1
      obtain ⟨-, od, capd, b4, o4, rfl, hd3, hd4, r4⟩ := h2
      have hlen2 := len_bd hc3 hc4
      have hq2 : ((l.length : Int) != (l.length : Int)) = false := by simp
      have hiy := index_i64 (cap := capc) r3.at_
      have hiy2 := index_i64 (cap := capd) r4.at_
      have R3 := Lib.hid r3
      have R4 := Lib.hid r4
      have k0 : ∀ W, Ext wr W → W.cell? ⟨b, o + j, none⟩ = some (.slice oc l.length capc) := fun _ h => h.kept e0
      have k1 : ∀ W, Ext wr W → W.cell? ⟨b2, o2 + j, none⟩ = some (.slice od l.length capd) := fun _ h => h.kept f0
      clear r3 r4 hc3 hc4 hd3 hd4
      go_upto_region 6 with fail
      refine region_calm 11 (by kernel_rfl) (by kernel_rfl) ?_
      simp only [List.take_succ_cons, List.take_zero, List.drop_succ_cons, List.drop_zero]
      repeat (first | (refine calm_fresh ?_ ?_ (fun wc hE => ?_) ?_; (decide); rfl; (focus (go_simp; done)); go_simp) | (refine calm_value ?_ ?_ ?_; (decide); (first | rfl | (focus (go_simp; done))); apply Exists.intro; refine ⟨fun wc hE => ?_, ?_⟩; (go_simp; exact rfl); go_simp) | (refine calm_call ?_ ?_ ?_; (decide); (first | rfl | (focus (go_simp; done))); apply Exists.intro; refine ⟨fun wc hE => ?_, ?_⟩; (go_simp; (first | fail)); go_simp) | (refine calm_skip ?_ ?_ ?_; (decide); (focus (go_simp; done)); go_simp))
      refine calm_nil ?_
      intro wx hx
      have HE := Lib.hid hx
      have X := Lib.hid (X.out.trans hx)
      clear k0 k1
      have e0 := hx.kept e0
      have f0 := hx.kept f0
      clear hx
      go_wp2_with fail
      obtain ⟨w1, hw1⟩ : ∃ w1, w1 = wx := ⟨_, rfl⟩
      subst hw1
      go_loopw [6] (fun i wr => ∃ k : Nat, k ≤ l.length ∧ i = .int .i64 k ∧ Ext w1 wr) (fun i _ => l.length - (intOf i).toNat)
      case atStart => exact ⟨0, by omega, rfl, Ext.refl _⟩
      case round =>
        obtain ⟨k, hk, rfl, hE⟩ := hrel
        have e0 := hE.kept e0
        have f0 := hE.kept f0
        have HE2 := Lib.hid (HE.out.trans hE)
        have HE1 := Lib.hid hE
        clear hE
        by_cases hltk : k < l.length
        · have e1 := (R3.out.ext HE2.out).one k hltk
          have f1 := (R4.out.ext HE2.out).one k hltk
          generalize l.getD k default = x at *
          have k0 : ∀ W, Ext wr W → W.cell? ⟨b, o + j, none⟩ = some (.slice oc l.length capc) := fun _ h => h.kept e0
          have k1 : ∀ W, Ext wr W → W.cell? ⟨b2, o2 + j, none⟩ = some (.slice od l.length capd) := fun _ h => h.kept f0
          have k2 : ∀ W, Ext wr W → W.cell? ⟨b3, o3 + k, none⟩ = some (.int .i64 x) := fun _ h => h.kept e1
          have k3 : ∀ W, Ext wr W → W.cell? ⟨b4, o4 + k, none⟩ = some (.int .i64 x) := fun _ h => h.kept f1
          clear f0 e1 f1
          go_upto_region 11 with fail
          refine region_calm 15 (by kernel_rfl) (by kernel_rfl) ?_
          simp only [List.take_succ_cons, List.take_zero, List.drop_succ_cons, List.drop_zero]
          repeat (first | (refine calm_fresh ?_ ?_ (fun wc hE => ?_) ?_; (decide); rfl; (focus (go_simp; done)); go_simp) | (refine calm_value ?_ ?_ ?_; (decide); (first | rfl | (focus (go_simp; done))); apply Exists.intro; refine ⟨fun wc hE => ?_, ?_⟩; (go_simp; exact rfl); go_simp) | (refine calm_call ?_ ?_ ?_; (decide); (first | rfl | (focus (go_simp; done))); apply Exists.intro; refine ⟨fun wc hE => ?_, ?_⟩; (go_simp; (first | fail)); go_simp) | (refine calm_skip ?_ ?_ ?_; (decide); (focus (go_simp; done)); go_simp))
          refine calm_nil ?_
          intro wy hy
          have HE1 := Lib.hid (HE1.out.trans hy)
          clear hy k0 k1 k2 k3 e0
          go_wp2
          go_roundw
          case rel => exact ⟨k + 1, by omega, by go_num, HE1.out⟩
          case measure => first | (simp [intOf]; done) | (simp [intOf]; omega)
        · have hje : k = l.length := by omega
          subst hje
          have hlt2 : decide ((l.length : Int) < (l.length : Int)) = false := by simp
          go_wp2
          go_roundw
          case rel => exact ⟨j + 1, by omega, by go_num, X.out.trans HE1.out⟩
          case measure => first | (simp [intOf]; done) | (simp [intOf]; omega)
    · have hje : j = m.length := by omega
      subst hje
      have hlt2 : decide ((m.length : Int) < (m.length : Int)) = false := by simp
      go_wp2
      go_ret
      exact ⟨rfl, X.out⟩
set_option maxHeartbeats 4000000 in
theorem rSame3_c (v u : Value) (fin value : Int) (steps : Nat) (seen : List LSee) (mem : List (List Int)) (w : World) (hv : ShownAt w v fin value steps seen mem) (hu : ShownAt w u fin value steps seen mem) :
    Calls Try.prog 33 #[v, u] w fun e w' => e = .returned (.bool true) ∧ Ext w w' := by
  obtain ⟨vs, vm, rfl, hs, hm⟩ := hv
  obtain ⟨us, um, rfl, hs2, hm2⟩ := hu
  have Hs := Lib.hid hs
  have Hm := Lib.hid hm
  have Hs2 := Lib.hid hs2
  have Hm2 := Lib.hid hm2
  have hqa : ∀ x : Int, (x == x) = true := by simp
  clear hs hm hs2 hm2
  go_enter Try.func33, Try.ntmps33
  go_wp2_with fail
  obtain ⟨W, g, hg, hW, hx, bA, bB⟩ := blocks2 w #[.int .i64 fin, .int .i64 value, .int .i64 steps, vs, vm] #[.int .i64 fin, .int .i64 value, .int .i64 steps, us, um] 36 36
  rw [hW, hg]
  have X := Lib.hid hx
  have k4 : W.cell? ⟨g, 4, none⟩ = some vm := by rw [bA.cell]; rfl
  have l4 : W.cell? ⟨g + 1, 4, none⟩ = some um := by rw [bB.cell]; rfl
  clear hW hg hx bA bB
  (with_reducible refine (rSeenEq_c seen vs us W (Hs.out.ext X.out) (Hs2.out.ext X.out)).mono ?_)
  rintro e w1 ⟨rfl, hx⟩
  have X := Lib.hid (X.out.trans hx)
  have k4 := hx.kept k4
  have l4 := hx.kept l4
  clear hx
  go_wp2_with fail
  (with_reducible refine (rMemEq_c mem vm um w1 (Hm.out.ext X.out) (Hm2.out.ext X.out)).mono ?_)
  rintro e w2 ⟨rfl, hx⟩
  have X := Lib.hid (X.out.trans hx)
  clear hx k4 l4
  go_wp2
  go_ret
  exact ⟨rfl, X.out⟩
end Go.Proofs.Yteiknefajlocoaa
/- The walk of SeqLonger. -/
namespace Go.Proofs.Yteiknefajlocoaa
open Go.ChangeShapes Go.WideShapes Go.ChangeAt Go.RowKit
set_option linter.unusedVariables false
set_option linter.unusedSimpArgs false

theorem shown_sl {w : World} {v : Value} {fin value : Int} {steps : Nat} {seen : List LSee} {mem : List (List Int)} (h : ShownAt w v fin value steps seen mem) :
    ∃ a c b d, v = .agg #[.int .i64 fin, .int .i64 value, .int .i64 steps, .slice a seen.length c, .slice b mem.length d] ∧ SeenAt w (.slice a seen.length c) seen := by
  obtain ⟨vs, vm, rfl, ⟨oa, cap, b, o, rfl, hs⟩, ⟨ob, capb, b2, o2, rfl, -⟩⟩ := h
  exact ⟨_, _, _, _, rfl, oa, cap, b, o, rfl, hs⟩
theorem mayE_in {p : LProg} {m : List (List Int)} {fuel : Int} (h0 : 0 ≤ fuel) (h1 : fuel ≤ 40000) : mayE p m fuel = if (hardOk p && fitsOk p m) = false then 2 else 0 := by
  unfold mayE
  rw [if_neg (show ¬ (fuel < 0 ∨ 40000 < fuel) by omega)]
set_option maxRecDepth 100000 in
set_option maxHeartbeats 2000000 in
theorem begins_c (l t : List LSee) (v u : Value) (w : World) (hv : SeenAt w v (l ++ t)) (hu : SeenAt w u l) :
    Calls Try.prog 34 #[v, u] w fun e w' => e = .returned (.bool true) ∧ Ext w w' := by
  obtain ⟨oa, cap, b, o, rfl, hc1, hc2, hrow⟩ := hv
  obtain ⟨ob, capb, b2, o2, rfl, hd1, hd2, hrow2⟩ := hu
  have hlen := len_bd hc1 hc2
  have hlen2 := len_bd hd1 hd2
  have hix := index_see (cap := cap) hrow.at_
  have hix2 := index_see (cap := capb) hrow2.at_
  have Hrow := Lib.hid hrow
  have Hrow2 := Lib.hid hrow2
  have hle : l.length ≤ (l ++ t).length := by simp
  have Hget : Hid (∀ j, j < l.length → (l ++ t).getD j default = l.getD j default) := Lib.hid fun j hj => by simp [List.getD_eq_getElem?_getD, List.getElem?_append_left hj]
  have hne := see_ne
  generalize hL : (l ++ t).length = L at *
  have hq1 : decide ((L : Int) < (l.length : Int)) = false := by simp; omega
  have hq2 : decide (L < l.length) = false := by simp; omega
  have hq3 : ¬ L < l.length := by omega
  clear hrow hrow2 hc1 hc2 hd1 hd2
  go_enter Try.func34, Try.ntmps34
  go_wp2_with fail
  go_loopw [5] (fun i wr => ∃ j : Nat, j ≤ l.length ∧ i = .int .i64 j ∧ Ext w wr) (fun i _ => l.length - (intOf i).toNat)
  case atStart => exact ⟨0, by omega, rfl, Ext.refl _⟩
  case round =>
    obtain ⟨j, hj, rfl, hE⟩ := hrel
    have X := Lib.hid hE
    clear hE
    by_cases hlt : j < l.length
    · have hjL : j < L := by omega
      have hr1 := (Hrow.out.ext X.out)
      rw [← hL] at hr1
      obtain ⟨e0, e1, e2⟩ := hr1.see j (by simp; omega)
      rw [Hget.out j hlt] at e0 e1 e2
      obtain ⟨f0, f1, f2⟩ := (Hrow2.out.ext X.out).see j hlt
      generalize l.getD j default = x at *
      have k0 : ∀ W, Ext wr W → W.cell? ⟨b, o + j * 3, none⟩ = some (.int .i64 x.kind) := fun _ h => h.kept e0
      have k1 : ∀ W, Ext wr W → W.cell? ⟨b, o + j * 3 + 1, none⟩ = some (.int .i64 x.a) := fun _ h => h.kept e1
      have k2 : ∀ W, Ext wr W → W.cell? ⟨b, o + j * 3 + 2, none⟩ = some (.int .i64 x.b) := fun _ h => h.kept e2
      have l0 : ∀ W, Ext wr W → W.cell? ⟨b2, o2 + j * 3, none⟩ = some (.int .i64 x.kind) := fun _ h => h.kept f0
      have l1 : ∀ W, Ext wr W → W.cell? ⟨b2, o2 + j * 3 + 1, none⟩ = some (.int .i64 x.a) := fun _ h => h.kept f1
      have l2 : ∀ W, Ext wr W → W.cell? ⟨b2, o2 + j * 3 + 2, none⟩ = some (.int .i64 x.b) := fun _ h => h.kept f2
      clear e0 e1 e2 f0 f1 f2 hr1
      go_upto_region 6 with fail
      refine region_calm 9 (by kernel_rfl) (by kernel_rfl) ?_
      simp only [List.take_succ_cons, List.take_zero, List.drop_succ_cons, List.drop_zero]
      repeat (first | (refine calm_fresh ?_ ?_ (fun wc hE => ?_) ?_; (decide); rfl; (focus (go_simp; done)); go_simp) | (refine calm_value ?_ ?_ ?_; (decide); (first | rfl | (focus (go_simp; done))); apply Exists.intro; refine ⟨fun wc hE => ?_, ?_⟩; (go_simp; exact rfl); go_simp) | (refine calm_call ?_ ?_ ?_; (decide); (first | rfl | (focus (go_simp; done))); apply Exists.intro; refine ⟨fun wc hE => ?_, ?_⟩; (go_simp; (first | fail)); go_simp) | (refine calm_skip ?_ ?_ ?_; (decide); (focus (go_simp; done)); go_simp))
      refine calm_nil ?_
      intro wx hx
      have X := Lib.hid (X.out.trans hx)
      clear hx k0 k1 k2 l0 l1 l2
      go_wp2
      go_roundw
      case rel => exact ⟨j + 1, by omega, by go_num, X.out⟩
      case measure => first | (simp [intOf]; done) | (simp [intOf]; omega)
    · have hje : j = l.length := by omega
      subst hje
      have hlt2 : decide ((l.length : Int) < (l.length : Int)) = false := by simp
      go_wp2
      go_ret
      exact ⟨rfl, X.out⟩
set_option maxRecDepth 100000 in
set_option maxHeartbeats 4000000 in
theorem seqLonger_walk {p : LProg} {v : Value} {m : List (List Int)} {vm : Value} {w : World} (hp : ProgAt w v p) (hm : MemAt w vm m) (few : Int) (hf : R64 few) (more : Int) (hg : R64 more) :
    Calls Try.prog 7 #[v, vm, .int .i64 few, .int .i64 more] w fun e w' => e = .returned (.bool true) ∧ Ext w w' := by
  have HP := Lib.hid hp
  have HM := Lib.hid hm
  have Hf := Lib.hid hf
  have Hg := Lib.hid hg
  obtain ⟨a0, a1, a2, b0, b1, b2, rfl⟩ := prog_sl hp
  clear hp hm hf hg
  by_cases q1 : few < 0
  · go_enter Try.func7, Try.ntmps7
    go_wp2
    go_ret
    exact ⟨rfl, (Ext.refl _).alloc _⟩
  have d1 : decide (few < 0) = false := decide_eq_false q1
  by_cases q2 : more < few
  · go_enter Try.func7, Try.ntmps7
    go_wp2
    go_ret
    exact ⟨rfl, (Ext.refl _).alloc _⟩
  have d2 : decide (more < few) = false := decide_eq_false q2
  by_cases q3 : 4000 < more
  · go_enter Try.func7, Try.ntmps7
    go_wp2
    go_ret
    exact ⟨rfl, (Ext.refl _).alloc _⟩
  have d3 : decide (4000 < more) = false := decide_eq_false q3
  have he1 := mayE_in (p := p) (m := m) (fuel := few) (by omega) (by omega)
  have he2 := mayE_in (p := p) (m := m) (fuel := more) (by omega) (by omega)
  have HL := Lib.hid (runM_longer p (start m.flatten) rfl few.toNat more.toNat (by omega))
  have hft : ((few.toNat : Nat) : Int) = few := by omega
  have C1 := Lib.hid fun W (X : Ext w W) => run_c p m few _ vm W (HP.out.ext X) (HM.out.ext X) Hf.out
  have C2 := Lib.hid fun W (X : Ext w W) => run_c p m more _ vm W (HP.out.ext X) (HM.out.ext X) Hg.out
  unfold RunPost at C1 C2
  rw [he1] at C1
  rw [he2] at C2
  generalize (runM p few.toNat (start m.flatten)) = F at *
  generalize (runM p more.toNat (start m.flatten)) = G at *
  clear he1 he2
  go_enter Try.func7, Try.ntmps7
  cases hok : (hardOk p && fitsOk p m)
  · rw [hok] at C1 C2
    simp only [eq_self_iff_true, if_true] at C1 C2
    clear hok q1 q2 q3
    go_wp2_with fail
    obtain ⟨W, gp, hg, hW, hx, bA⟩ := block1 w #[.slice a0 a1 a2, .slice b0 b1 b2] 25
    rw [hW, hg]
    have X := Lib.hid hx
    clear hW hg hx
    (with_reducible refine (C1.out W X.out).mono ?_)
    rintro e w1 ⟨u, rfl, hx, -, hB⟩
    have hB := hB (by decide)
    obtain ⟨s1, s2, s3, s4, rfl, -⟩ := shown_sl hB
    have X := Lib.hid (X.out.trans hx)
    have bA := bA.ext hx
    have hgpl := bA.lt
    have c0 : w1.cell? ⟨gp, 0, none⟩ = some (.slice a0 a1 a2) := by rw [bA.cell]; rfl
    have c1 : w1.cell? ⟨gp, 1, none⟩ = some (.slice b0 b1 b2) := by rw [bA.cell]; rfl
    clear hx
    go_wp2_with fail
    obtain ⟨w2, gs, hg, hW, hxx, bS⟩ := block1 w1 #[.int .i64 0, .int .i64 0, .int .i64 0, .slice s1 0 s2, .slice s3 0 s4] 36
    rw [hW, hg]
    have X := Lib.hid (X.out.trans hxx)
    clear hW hg c0 c1 bA
    (with_reducible refine (C2.out w2 X.out).mono ?_)
    rintro e w3 ⟨u2, rfl, hx, -, hB2⟩
    have hB2 := hB2 (by decide)
    obtain ⟨t1, t2, t3, t4, rfl, -⟩ := shown_sl hB2
    have X := Lib.hid (X.out.trans hx)
    have bS := bS.ext hx
    have s3' : w3.cell? ⟨gs, 3, none⟩ = some (.slice s1 0 s2) := by rw [bS.cell]; rfl
    have hgsl := bS.lt
    have X2 := Lib.hid (X.out.alloc (.cells #[.int .i64 0, .int .i64 0, .int .i64 0, .slice t1 0 t2, .slice t3 0 t4] 36))
    clear hx bS
    go_wp2
    go_ret
    exact ⟨rfl, X2.out⟩
  · rw [hok] at C1 C2
    simp only [Bool.true_eq_false, if_false] at C1 C2
    clear hok q1 q2 q3
    go_wp2_with fail
    obtain ⟨W, gp, hg, hW, hx, bA⟩ := block1 w #[.slice a0 a1 a2, .slice b0 b1 b2] 25
    rw [hW, hg]
    have X := Lib.hid hx
    clear hW hg hx
    (with_reducible refine (C1.out W X.out).mono ?_)
    rintro e w1 ⟨u, rfl, hx, hA, -⟩
    have hA := hA (by trivial)
    obtain ⟨s1, s2, s3, s4, rfl, hsn⟩ := shown_sl hA
    have HA := Lib.hid hA
    have HSn := Lib.hid hsn
    have X := Lib.hid (X.out.trans hx)
    have bA := bA.ext hx
    have hgpl := bA.lt
    have c0 : w1.cell? ⟨gp, 0, none⟩ = some (.slice a0 a1 a2) := by rw [bA.cell]; rfl
    have c1 : w1.cell? ⟨gp, 1, none⟩ = some (.slice b0 b1 b2) := by rw [bA.cell]; rfl
    clear hx
    go_wp2_with fail
    obtain ⟨w2, gs, hg, hW, hxx, bS⟩ := block1 w1 #[.int .i64 F.fin, .int .i64 F.value, .int .i64 F.steps, .slice s1 F.seen.length s2, .slice s3 (splitW p F.words).length s4] 36
    rw [hW, hg]
    have X := Lib.hid (X.out.trans hxx)
    clear hW hg c0 c1 bA
    have HA := Lib.hid (HA.out.ext hxx)
    have HSn := Lib.hid (HSn.out.ext hxx)
    clear hxx
    (with_reducible refine (C2.out w2 X.out).mono ?_)
    rintro e w3 ⟨u2, rfl, hx, hB, -⟩
    have hB := hB (by trivial)
    obtain ⟨t1, t2, t3, t4, rfl, hsn⟩ := shown_sl hB
    have X := Lib.hid (X.out.trans hx)
    have HA := Lib.hid (HA.out.ext hx)
    have HSn := Lib.hid (HSn.out.ext hx)
    have HB := Lib.hid hB
    have HTn := Lib.hid hsn
    have bS := bS.ext hx
    have s0 : w3.cell? ⟨gs, 0, none⟩ = some (.int .i64 F.fin) := by rw [bS.cell]; rfl
    have s1' : w3.cell? ⟨gs, 1, none⟩ = some (.int .i64 F.value) := by rw [bS.cell]; rfl
    have s2' : w3.cell? ⟨gs, 2, none⟩ = some (.int .i64 F.steps) := by rw [bS.cell]; rfl
    have s3' : w3.cell? ⟨gs, 3, none⟩ = some (.slice s1 F.seen.length s2) := by rw [bS.cell]; rfl
    have s4' : w3.cell? ⟨gs, 4, none⟩ = some (.slice s3 (splitW p F.words).length s4) := by rw [bS.cell]; rfl
    have hgsl := bS.lt
    have hx2 : Ext w3 (w3.alloc (.cells #[.int .i64 G.fin, .int .i64 G.value, .int .i64 G.steps, .slice t1 G.seen.length t2, .slice t3 (splitW p G.words).length t4] 36)) := (Ext.refl _).alloc _
    have HX2 := Lib.hid hx2
    clear hx bS hA hB hsn hx2
    by_cases hfin : F.fin = 0
    · obtain ⟨hst, hst2, t, hseen⟩ := HL.out.1 hfin
      have e1 : (((F.steps : Nat) : Int) == few) = true := by rw [hst]; simpa using hft
      have e2 : decide (few ≤ ((G.steps : Nat) : Int)) = true := by simp; omega
      have HTn2 : Hid (SeenAt w3 (.slice t1 G.seen.length t2) (F.seen ++ t)) := Lib.hid (by
        have := HTn.out
        rw [hseen] at this
        rw [hseen]
        exact this)
      rw [hfin] at s0
      clear hst hst2 hseen hfin
      go_wp2_with fail
      (with_reducible refine (begins_c F.seen t _ _ _ (HTn2.out.ext HX2.out) (HSn.out.ext HX2.out)).mono ?_)
      rintro e w5 ⟨rfl, hx5⟩
      have X := Lib.hid ((X.out.trans HX2.out).trans hx5)
      clear hx5 s0 s1' s2' s3' s4'
      go_wp2
      go_ret
      exact ⟨rfl, X.out⟩
    · have hFG := HL.out.2 hfin
      have hfd : (F.fin == (0 : Int)) = false := by simpa using hfin
      subst hFG
      clear hfin
      go_wp2_with fail
      have C := rSame3_c _ _ _ _ _ _ _ _ (HA.out.ext HX2.out) (HB.out.ext HX2.out)
      (with_reducible refine C.mono ?_)
      clear C
      rintro e w5 ⟨rfl, hx5⟩
      have X := Lib.hid ((X.out.trans HX2.out).trans hx5)
      clear hx5 s0 s1' s2' s3' s4'
      go_wp2
      go_ret
      exact ⟨rfl, X.out⟩
end Go.Proofs.Yteiknefajlocoaa
