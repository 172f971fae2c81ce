/- Laid together from: Seq7, Ref3e, SeqR, OpenP, Bar. -/
import Derived.Test.YteiknefajlocoaaSeqRunsB11
import Derived.Test.YteiknefajlocoaaSeqRunsB13
import Derived.Test.YteiknefajlocoaaSeqRunsB14
import Derived.Test.YteiknefajlocoaaSeqRunsB7
import Derived.Test.YteiknefajlocoaaProg
import Derived.Test.YteiknefajlocoaaSeqRunsB1
import Derived.Lib.SmallJoins
import Derived.Deep.Slices
import Derived.Deep.Fields
import Derived.ChangeSame
import Derived.Test.YteiknefajlocoaaRows
import Derived.JoinedOf

/- Walks of the program's May and Run, and of the reference's Wrong. -/
namespace Go.Proofs.Yteiknefajlocoaa
open Go.ChangeShapes Go.WideShapes Go.ChangeAt Go.RowKit
set_option linter.unusedVariables false
set_option linter.unusedSimpArgs false

/-- what is wrong with a run first -/
def mayE (p : LProg) (m : List (List Int)) (fuel : Int) : Int := if (hardOk p && fitsOk p m) = false then 2 else if fuel < 0 ∨ 40000 < fuel then 3 else 0
theorem mayE_ok {p : LProg} {m : List (List Int)} {fuel : Int} (h : mayE p m fuel = 0) : hardOk p = true ∧ fitsOk p m = true ∧ 0 ≤ fuel ∧ fuel ≤ 40000 := by
  unfold mayE at h
  split at h
  · cases h
  · rename_i h1
    split at h
    · cases h
    · rename_i h2
      simp only [Bool.not_eq_false, Bool.and_eq_true] at h1
      exact ⟨h1.1, h1.2, by omega, by omega⟩
set_option maxHeartbeats 1000000 in
theorem may3_c (p : LProg) (m : List (List Int)) (fuel : Int) (v vm : Value) (w : World) (hp : ProgAt w v p) (hm : MemAt w vm m) (hf : R64 fuel) :
    Calls Try.prog 69 #[v, vm, .int .i64 fuel] w fun e w' => e = .returned (.int .i64 (mayE p m fuel)) ∧ Ext w w' := by
  have HP := Lib.hid hp
  have HM := Lib.hid hm
  obtain ⟨a0, a1, a2, b0, b1, b2, rfl⟩ := prog_sl hp
  have hf0 := hf.1
  have hf1 := hf.2
  clear hp hm
  go_enter Try.func69, Try.ntmps69
  go_wp2_with fail
  obtain ⟨W, g, hg, hW, hx, bA⟩ := block1 w #[.slice a0 a1 a2, .slice b0 b1 b2] 25
  rw [hW, hg]
  have X := Lib.hid hx
  clear hW hg hx
  have C := hard_c p _ W (HP.out.ext X.out)
  cases hh : hardOk p
  · rw [hh] at C
    have Hh := Lib.hid hh
    clear hh
    (with_reducible refine C.mono ?_)
    rintro e w1 ⟨rfl, h1⟩
    have X := Lib.hid (X.out.trans h1)
    clear h1 C
    go_wp2
    go_ret
    exact ⟨ret_i (by unfold mayE; simp [Hh.out]), X.out⟩
  rw [hh] at C
  have Hh := Lib.hid hh
  clear hh
  (with_reducible refine C.mono ?_)
  rintro e w1 ⟨rfl, h1⟩
  have bA := bA.ext h1
  have X := Lib.hid (X.out.trans h1)
  have c0 : w1.cell? ⟨g, 0, none⟩ = some (.slice a0 a1 a2) := by rw [bA.cell]; rfl
  have c1 : w1.cell? ⟨g, 1, none⟩ = some (.slice b0 b1 b2) := by rw [bA.cell]; rfl
  clear h1 C
  go_wp2_with fail
  have C := lFits_c p _ m vm w1 (HP.out.ext X.out) (HM.out.ext X.out)
  cases hh : fitsOk p m
  · rw [hh] at C
    have Hf := Lib.hid hh
    clear hh
    (with_reducible refine C.mono ?_)
    rintro e w2 ⟨rfl, h1⟩
    have X := Lib.hid (X.out.trans h1)
    clear h1 C
    go_wp2
    go_ret
    exact ⟨ret_i (by unfold mayE; simp [Hf.out]), X.out⟩
  rw [hh] at C
  have Hf := Lib.hid hh
  clear hh
  (with_reducible refine C.mono ?_)
  rintro e w2 ⟨rfl, h1⟩
  have X := Lib.hid (X.out.trans h1)
  clear h1 C c0 c1
  by_cases q0 : fuel < 0
  · have Q := Lib.hid q0
    go_wp2
    go_ret
    exact ⟨ret_i (by unfold mayE; simp [Hh.out, Hf.out, Q.out]), X.out⟩
  have q0d : decide (fuel < 0) = false := by simpa using q0
  by_cases q1 : 40000 < fuel
  · have Q := Lib.hid q1
    go_wp2
    go_ret
    exact ⟨ret_i (by unfold mayE; simp [Hh.out, Hf.out, Q.out]), X.out⟩
  have q1d : decide (40000 < fuel) = false := by simpa using q1
  have Q := Lib.hid (show ¬ (fuel < 0 ∨ 40000 < fuel) by omega)
  go_wp2
  go_ret
  exact ⟨ret_i (by unfold mayE; rw [if_neg (by simp [Hh.out, Hf.out]), if_neg Q.out]), X.out⟩

set_option maxHeartbeats 1000000 in
theorem wrong3_c (p : LProg) (m : List (List Int)) (fuel : Int) (v vm : Value) (w : World) (hp : ProgAt w v p) (hm : MemAt w vm m) (hf : R64 fuel) :
    Calls Try.prog 32 #[v, vm, .int .i64 fuel] w fun e w' => e = .returned (.int .i64 (mayE p m fuel)) ∧ Ext w w' := by
  have HP := Lib.hid hp
  have HM := Lib.hid hm
  obtain ⟨a0, a1, a2, b0, b1, b2, rfl⟩ := prog_sl hp
  have hf0 := hf.1
  have hf1 := hf.2
  clear hp hm
  go_enter Try.func32, Try.ntmps32
  go_wp2_with fail
  obtain ⟨W, g, hg, hW, hx, bA⟩ := block1 w #[.slice a0 a1 a2, .slice b0 b1 b2] 25
  rw [hW, hg]
  have X := Lib.hid hx
  clear hW hg hx
  have C := rHard_c p _ W (HP.out.ext X.out)
  cases hh : hardOk p
  · rw [hh] at C
    have Hh := Lib.hid hh
    clear hh
    (with_reducible refine C.mono ?_)
    rintro e w1 ⟨rfl, h1⟩
    have X := Lib.hid (X.out.trans h1)
    clear h1 C
    go_wp2
    go_ret
    exact ⟨ret_i (by unfold mayE; simp [Hh.out]), X.out⟩
  rw [hh] at C
  have Hh := Lib.hid hh
  clear hh
  (with_reducible refine C.mono ?_)
  rintro e w1 ⟨rfl, h1⟩
  have bA := bA.ext h1
  have X := Lib.hid (X.out.trans h1)
  have c0 : w1.cell? ⟨g, 0, none⟩ = some (.slice a0 a1 a2) := by rw [bA.cell]; rfl
  have c1 : w1.cell? ⟨g, 1, none⟩ = some (.slice b0 b1 b2) := by rw [bA.cell]; rfl
  clear h1 C
  go_wp2_with fail
  have C := rFits_c p _ m vm w1 (HP.out.ext X.out) (HM.out.ext X.out)
  cases hh : fitsOk p m
  · rw [hh] at C
    have Hf := Lib.hid hh
    clear hh
    (with_reducible refine C.mono ?_)
    rintro e w2 ⟨rfl, h1⟩
    have X := Lib.hid (X.out.trans h1)
    clear h1 C
    go_wp2
    go_ret
    exact ⟨ret_i (by unfold mayE; simp [Hf.out]), X.out⟩
  rw [hh] at C
  have Hf := Lib.hid hh
  clear hh
  (with_reducible refine C.mono ?_)
  rintro e w2 ⟨rfl, h1⟩
  have X := Lib.hid (X.out.trans h1)
  clear h1 C c0 c1
  by_cases q0 : fuel < 0
  · have Q := Lib.hid q0
    go_wp2
    go_ret
    exact ⟨ret_i (by unfold mayE; simp [Hh.out, Hf.out, Q.out]), X.out⟩
  have q0d : decide (fuel < 0) = false := by simpa using q0
  by_cases q1 : 40000 < fuel
  · have Q := Lib.hid q1
    go_wp2
    go_ret
    exact ⟨ret_i (by unfold mayE; simp [Hh.out, Hf.out, Q.out]), X.out⟩
  have q1d : decide (40000 < fuel) = false := by simpa using q1
  have Q := Lib.hid (show ¬ (fuel < 0 ∨ 40000 < fuel) by omega)
  go_wp2
  go_ret
  exact ⟨ret_i (by unfold mayE; rw [if_neg (by simp [Hh.out, Hf.out]), if_neg Q.out]), X.out⟩

theorem results_ct {P : Program} {w : World} {g : Nat} {T t p ty : Nat} {cs : Array Value} {fn : Func} {d : TypeDesc} {v : Value} (h : Blk w g T cs) (hr : fn.results = #[.cell p ty, .tmp t]) (tmps : Array Value) (ht : tmps.getD t undef = v) (hp : tmps.getD p undef = .pointer (some ⟨g, 0, none⟩))
    (hu : P.underlying ty = some d) (hd : d.isRow = true) (hi : (P.info? ty).map (·.size) = some cs.size) : (results fn tmps).run P w = .ok (.tuple #[.agg cs, v]) w := by
  have hp' : tmps[p]?.getD undef = .pointer (some ⟨g, 0, none⟩) := by simpa using hp
  have ht' : tmps[t]?.getD undef = v := by simpa using ht
  have hc : w.rangeAt g 0 cs.toList := h.range 0 cs.toList (fun j v hv => by simpa using hv)
  have := run_loadVar_mid w g 0 ty cs.toList d hc hu hd (by simpa using hi)
  simp only [Array.toArray_toList] at this
  simp [results, hr, hp', ht', asAddr, this]
def machSteps (w : World) (g : Nat) : Nat := match w.cell? ⟨g, 4, none⟩ with
  | some (.int _ n) => n.toNat
  | _ => 0
theorem machSteps_of {w : World} {B g : Nat} {vR vC vM vB vS vW : Value} {bases : List Int} {M : Mach} (h : MSt w B g vR vC vM vB vS vW bases M) : machSteps w g = M.steps := by
  unfold machSteps
  rw [h.cells.2.2.2.2.1.1]
  simp
def RunPost (p : LProg) (m : List (List Int)) (fuel : Int) (F : Mach) (w : World) (e : Ending) (w' : World) : Prop :=
  ∃ u, e = .returned (.tuple #[u, .int .i64 (mayE p m fuel)]) ∧ Ext w w' ∧ (mayE p m fuel = 0 → ShownAt w' u F.fin F.value F.steps F.seen (splitW p F.words)) ∧ (mayE p m fuel ≠ 0 → ShownAt w' u 0 0 0 [] [])
theorem mem_at_nil (w : World) : MemAt w (.slice none 0 0) [] := ⟨none, 0, 0, 0, rfl, by simp, by decide, fun _ => undef, ⟨fun h => by simp at h, fun i j hi hj => by simp at hi⟩, fun i hi => by simp at hi⟩
theorem shown_nil (w : World) : ShownAt w (.agg #[.int .i64 0, .int .i64 0, .int .i64 0, .slice none 0 0, .slice none 0 0]) 0 0 0 [] [] := ⟨_, _, rfl, seen_nil w, mem_at_nil w⟩
/-- a result of five cells, put into block r, which is older than what it shows -/
theorem shown_put {p : LProg} {F : Mach} {wB w0 w1 : World} {r : Nat} {vs vm x0 x1 x2 x3 x4 : Value} (hS : ShownOwn w1 wB.heap.size (.agg #[.int .i64 F.fin, .int .i64 F.value, .int .i64 F.steps, vs, vm]) F.fin F.value F.steps F.seen (splitW p F.words)) (h64 : All64 F.words)
    (hR : Blk w1 r 36 #[x0, x1, x2, x3, x4]) (hr : r < wB.heap.size) (hr0 : w0.heap.size ≤ r) (hx : Ext w0 wB) (hx1 : Ext wB w1) {w2 : World}
    (hw : w2 = ((((w1.setCell ⟨r, 0, none⟩ (.int .i64 F.fin)).setCell ⟨r, 1, none⟩ (.int .i64 F.value)).setCell ⟨r, 2, none⟩ (.int .i64 F.steps)).setCell ⟨r, 3, none⟩ vs).setCell ⟨r, 4, none⟩ vm) :
    Blk w2 r 36 #[.int .i64 F.fin, .int .i64 F.value, .int .i64 F.steps, vs, vm] ∧ ShownAt w2 (.agg #[.int .i64 F.fin, .int .i64 F.value, .int .i64 F.steps, vs, vm]) F.fin F.value F.steps F.seen (splitW p F.words) ∧ Ext w0 w2 := by
  subst hw
  refine ⟨((((hR.set_ 0 _).set_ 1 _).set_ 2 _).set_ 3 _).set_ 4 _, ?_, ?_⟩
  · exact (((((hS.far (p := ⟨r, 0, none⟩) hr _).far (p := ⟨r, 1, none⟩) hr _).far (p := ⟨r, 2, none⟩) hr _).far (p := ⟨r, 3, none⟩) hr _).far (p := ⟨r, 4, none⟩) hr _).at_ (words_all p _ R64 h64.mem)
  · exact (((((hx.trans hx1).setCell hr0 _).setCell hr0 _).setCell hr0 _).setCell hr0 _).setCell hr0 _
set_option maxRecDepth 100000 in
set_option maxHeartbeats 8000000 in
theorem run_c (p : LProg) (m : List (List Int)) (fuel : Int) (v vm : Value) (w : World) (hp : ProgAt w v p) (hm : MemAt w vm m) (hf : R64 fuel) :
    Calls Try.prog 31 #[v, vm, .int .i64 fuel] w (RunPost p m fuel (runM p fuel.toNat (start m.flatten)) w) := by
  have hm64 : ∀ l ∈ m, ∀ x ∈ l, R64 x := by
    obtain ⟨oa, cap, b, o, rfl, hc1, hc2, vs0, hrow, hin⟩ := hm
    intro l hl x hx
    obtain ⟨i, hi, rfl⟩ := List.getElem_of_mem hl
    have := (hin i hi).1
    simp only [List.getD_eq_getElem?_getD, List.getElem?_eq_getElem hi, Option.getD_some] at this
    exact this x hx
  have HP := Lib.hid hp
  have HM := Lib.hid hm
  have Hm64 := Lib.hid hm64
  have Hf := Lib.hid hf
  obtain ⟨o1, s1, o2, s2, rfl⟩ : ∃ a c b d, v = .agg #[.slice a p.regs.length c, .slice b p.code.length d] := by
    obtain ⟨v1, v2, rfl, ⟨-, oa, cap, b, o, rfl, -⟩, ⟨-, ob, capb, b2, o2, rfl, -⟩⟩ := hp
    exact ⟨_, _, _, _, rfl⟩
  clear hp hm hm64 hf
  generalize hF : runM p fuel.toNat (start m.flatten) = F
  have HF := Lib.hid hF
  clear hF
  go_enter Try.func31, Try.ntmps31
  go_wp2_with fail
  obtain ⟨W, gb, hg, hW, hx, bP, bR⟩ := blocks2 w #[.slice o1 p.regs.length s1, .slice o2 p.code.length s2] #[.int .i64 0, .int .i64 0, .int .i64 0, .slice none 0 0, .slice none 0 0] 25 36
  rw [hW, hg]
  have X := Lib.hid hx
  have hgb : w.heap.size ≤ gb := by omega
  clear hW hg hx
  have C := may3_c p m fuel _ vm W (HP.out.ext X.out) (HM.out.ext X.out) Hf.out
  (with_reducible refine C.mono ?_)
  clear C
  rintro e w1 ⟨rfl, hx⟩
  have bP := bP.ext hx
  have bR := bR.ext hx
  have X := Lib.hid (X.out.trans hx)
  have Hb := Lib.hid hgb
  have c0 : w1.cell? ⟨gb, 0, none⟩ = some (.slice o1 p.regs.length s1) := by rw [bP.cell]; rfl
  have c1 : w1.cell? ⟨gb, 1, none⟩ = some (.slice o2 p.code.length s2) := by rw [bP.cell]; rfl
  have r0 : w1.cell? ⟨gb + 1, 0, none⟩ = some (.int .i64 0) ∧ w1.frozen? ⟨gb + 1, 0, none⟩ = false := ⟨by rw [bR.cell]; rfl, bR.frozen _⟩
  have r1 : w1.cell? ⟨gb + 1, 1, none⟩ = some (.int .i64 0) ∧ w1.frozen? ⟨gb + 1, 1, none⟩ = false := ⟨by rw [bR.cell]; rfl, bR.frozen _⟩
  have r2 : w1.cell? ⟨gb + 1, 2, none⟩ = some (.int .i64 0) ∧ w1.frozen? ⟨gb + 1, 2, none⟩ = false := ⟨by rw [bR.cell]; rfl, bR.frozen _⟩
  have r3 : w1.cell? ⟨gb + 1, 3, none⟩ = some (.slice none 0 0) ∧ w1.frozen? ⟨gb + 1, 3, none⟩ = false := ⟨by rw [bR.cell]; rfl, bR.frozen _⟩
  have r4 : w1.cell? ⟨gb + 1, 4, none⟩ = some (.slice none 0 0) ∧ w1.frozen? ⟨gb + 1, 4, none⟩ = false := ⟨by rw [bR.cell]; rfl, bR.frozen _⟩
  clear hx hgb
  by_cases h0 : mayE p m fuel = 0
  · obtain ⟨hh, hfit, hf0, hf4⟩ := mayE_ok h0
    have H0 := Lib.hid h0
    have Hh := Lib.hid hh
    have Hfit := Lib.hid hfit
    have Hgood := Lib.hid (mgood_start hfit Hm64.out)
    rw [h0]
    go_wp2_with fail
    have hr := (hard_parts hh).1
    have Hr := Lib.hid hr
    have C := begin_c p m (.slice o1 p.regs.length s1) (.slice o2 p.code.length s2) vm w1 (HM.out.ext X.out) hfit hr
    clear h0 hh hfit hr r0 r1 r2 r3 r4
    (with_reducible refine C.mono ?_)
    clear C
    rintro e w2 ⟨g, vB, vW, rfl, P0, hx0⟩
    have P0 := Lib.hid P0
    have X0 := Lib.hid hx0
    have BP0 := Lib.hid bP
    have BR0 := Lib.hid bR
    have Hfits : Hid (∀ i ∈ p.code, i.fits) := Lib.hid (by
      obtain ⟨v1, v2, hv, h1, h2⟩ := HP.out
      exact h2.1)
    have hrl := bR.lt
    clear hx0 c0 c1 bP bR
    go_wp2_with fail
    go_loopw [] (fun wr => ∃ (M : Mach) (vS : Value), M.steps ≤ fuel.toNat ∧ MGood p M ∧ runM p (fuel.toNat - M.steps) M = F ∧ MSt wr w1.heap.size g (.slice o1 p.regs.length s1) (.slice o2 p.code.length s2) (.slice none 0 0) vB vS vW (basesOf p) M ∧ Ext w1 wr) (fun wr => fuel.toNat - machSteps wr g)
    case atStart =>
      exact ⟨start m.flatten, _, by simp [start], Hgood.out, by simpa [start] using HF.out, P0.out, X0.out⟩
    case round =>
      obtain ⟨M, vS, hst, hgo, hrun, P, hE⟩ := hrel
      have Hgo := Lib.hid hgo
      have Hrun := Lib.hid hrun
      have PP := Lib.hid P
      have XE := Lib.hid hE
      have bP := BP0.out.ext hE
      have c1 : wr.cell? ⟨gb, 1, none⟩ = some (.slice o2 p.code.length s2) := by rw [bP.cell]; rfl
      obtain ⟨-, -, g2, -, g4, -, -, -, g18, -⟩ := P.cells
      have hgl := P.box.lt
      have hatle := hgo.at_
      have hsl := hgo.seen
      have Hmeas := Lib.hid (machSteps_of P)
      clear hgo hrun P hE bP
      by_cases hfin : M.fin = 0
      · have Hfin := Lib.hid hfin
        rw [hfin] at g2
        clear hfin
        by_cases hlt : (M.steps : Int) < fuel
        · by_cases hat : M.at_ < p.code.length
          · have Hi := Lib.hid (show p.code[M.at_]? = some (p.code.getD M.at_ default) by simp [hat])
            have Hfi := Lib.hid (Hfits.out _ (getD_mem hat))
            have hiok := (hard_parts Hh.out).2.2.2 _ (getD_mem hat)
            generalize p.code.getD M.at_ default = i at *
            have hN := Lib.hid (play_next Hgo.out Hi.out hiok Hfi.out (show M.steps < fuel.toNat by omega) Hfin.out Hrun.out)
            go_upto_region 6 with fail
            have k18 : ∀ W, Ext wr W → W.cell? ⟨g, 18, none⟩ = some (.int .i64 (M.at_ : Int)) := fun _ h => h.kept g18.1
            have k1 : ∀ W, Ext wr W → W.cell? ⟨gb, 1, none⟩ = some (.slice o2 p.code.length s2) := fun _ h => h.kept c1
            refine region_calm 9 (by kernel_rfl) (by kernel_rfl) ?_
            simp only [List.take_succ_cons, List.take_zero, List.drop_succ_cons, List.drop_zero]
            repeat (first | (refine calm_fresh ?_ ?_ (fun wc hE => ?_) ?_; (decide); rfl; (focus (go_simp; done)); go_simp) | (refine calm_value ?_ ?_ ?_; (decide); (first | rfl | (focus (go_simp; done))); apply Exists.intro; refine ⟨fun wc hE => ?_, ?_⟩; (go_simp; exact rfl); go_simp) | (refine calm_call ?_ ?_ ?_; (decide); (first | rfl | (focus (go_simp; done))); apply Exists.intro; refine ⟨fun wc hE => ?_, ?_⟩; (go_simp; (first | fail)); go_simp) | (refine calm_skip ?_ ?_ ?_; (decide); (focus (go_simp; done)); go_simp))
            refine calm_nil ?_
            intro wx hx
            clear k18 k1
            have PP := Lib.hid (PP.out.ext hx)
            have XE := Lib.hid (XE.out.trans hx)
            have g2 := kept2 hx g2
            have hgl := PP.out.box.lt
            clear hx
            have C := step_c p i Hi.out Hh.out Hfi.out Hgo.out.ok (by omega) (by omega) wx (HP.out.ext X.out) XE.out PP.out
            have C := Lib.hid C
            have Hms : Hid ((stepM p i M).steps = M.steps + 1) := Lib.hid (stepM_steps p i M)
            clear hiok
            go_wp2_with fail
            (with_reducible refine C.out.mono ?_)
            clear C
            rintro e w3 ⟨rfl, vS3, P3, X3⟩
            have P3 := Lib.hid P3
            have X3 := Lib.hid X3
            clear g2 g4 g18 c1
            go_wp2
            go_roundw
            case rel => exact ⟨stepM p i M, vS3, hN.out.2.1, hN.out.1, hN.out.2.2, P3.out, X3.out⟩
            case measure =>
              have e1 := Hmeas.out
              have e2 := machSteps_of P3.out
              have e3 := Hms.out
              rw [e1, e2]; omega
          · have hate : decide ((p.code.length : Int) ≤ (M.at_ : Int)) = true := by simp; omega
            have Hlast : Hid (F = { M with fin := 2 }) := Lib.hid (by rw [← Hrun.out]; exact runM_stop (by omega) Hfin.out (by simp; omega))
            go_upto_region 6 with fail
            have k18 : ∀ W, Ext wr W → W.cell? ⟨g, 18, none⟩ = some (.int .i64 (M.at_ : Int)) := fun _ h => h.kept g18.1
            have k1 : ∀ W, Ext wr W → W.cell? ⟨gb, 1, none⟩ = some (.slice o2 p.code.length s2) := fun _ h => h.kept c1
            refine region_calm 9 (by kernel_rfl) (by kernel_rfl) ?_
            simp only [List.take_succ_cons, List.take_zero, List.drop_succ_cons, List.drop_zero]
            repeat (first | (refine calm_fresh ?_ ?_ (fun wc hE => ?_) ?_; (decide); rfl; (focus (go_simp; done)); go_simp) | (refine calm_value ?_ ?_ ?_; (decide); (first | rfl | (focus (go_simp; done))); apply Exists.intro; refine ⟨fun wc hE => ?_, ?_⟩; (go_simp; exact rfl); go_simp) | (refine calm_call ?_ ?_ ?_; (decide); (first | rfl | (focus (go_simp; done))); apply Exists.intro; refine ⟨fun wc hE => ?_, ?_⟩; (go_simp; (first | fail)); go_simp) | (refine calm_skip ?_ ?_ ?_; (decide); (focus (go_simp; done)); go_simp))
            refine calm_nil ?_
            intro wx hx
            clear k18 k1
            have PP := Lib.hid (PP.out.ext hx)
            have XE := Lib.hid (XE.out.trans hx)
            have g2 := kept2 hx g2
            have hgl := PP.out.box.lt
            clear hx
            have PE := Lib.hid (PP.out.fin_ 2)
            have XE := Lib.hid (XE.out.setCell (p := ⟨g, 2, none⟩) PP.out.hg (.int .i64 2))
            have HOK := Lib.hid (Hgo.out.ok.same (M' := { M with fin := 2 }) rfl rfl)
            have hgl2 : g < (wx.setCell ⟨g, 2, none⟩ (.int .i64 2)).heap.size := by rw [setCell_size]; exact hgl
            go_wp2_with fail
            have C := done_c p Hr.out HOK.out _ (HP.out.ext X.out) XE.out PE.out
            (with_reducible refine C.mono ?_)
            clear C
            rintro e w4 ⟨u, rfl, hu, hx4⟩
            have HU := Lib.hid hu
            obtain ⟨vs, vm', U, rfl, hs1, hs2⟩ := hu
            obtain ⟨os, osc, rfl⟩ := own_slice hs1
            obtain ⟨om, omk, omc, rfl⟩ : ∃ a b c, vm' = .slice a b c := by
              obtain ⟨vs, h1, h2, -⟩ := hs2
              obtain ⟨a, c, h⟩ := own_slice h2
              exact ⟨a, _, c, h⟩
            have bR4 := BR0.out.ext hx4
            have r0 : w4.cell? ⟨gb + 1, 0, none⟩ = some (.int .i64 0) ∧ w4.frozen? ⟨gb + 1, 0, none⟩ = false := ⟨by rw [bR4.cell]; rfl, bR4.frozen _⟩
            have r1 : w4.cell? ⟨gb + 1, 1, none⟩ = some (.int .i64 0) ∧ w4.frozen? ⟨gb + 1, 1, none⟩ = false := ⟨by rw [bR4.cell]; rfl, bR4.frozen _⟩
            have r2 : w4.cell? ⟨gb + 1, 2, none⟩ = some (.int .i64 0) ∧ w4.frozen? ⟨gb + 1, 2, none⟩ = false := ⟨by rw [bR4.cell]; rfl, bR4.frozen _⟩
            have r3 : w4.cell? ⟨gb + 1, 3, none⟩ = some (.slice none 0 0) ∧ w4.frozen? ⟨gb + 1, 3, none⟩ = false := ⟨by rw [bR4.cell]; rfl, bR4.frozen _⟩
            have r4 : w4.cell? ⟨gb + 1, 4, none⟩ = some (.slice none 0 0) ∧ w4.frozen? ⟨gb + 1, 4, none⟩ = false := ⟨by rw [bR4.cell]; rfl, bR4.frozen _⟩
            have X4 := Lib.hid hx4
            have HW64 := Lib.hid HOK.out.w64
            clear hs1 hs2 hx4 g2 g4 g18 c1
            go_wp2
            have hE := shown_put (F := { M with fin := 2 }) HU.out HW64.out bR4 hrl (Nat.le_succ_of_le Hb.out) X.out X4.out rfl
            have HE := Lib.hid hE
            clear hE
            refine bodyPost_ret (results_ct (HE.out.1) rfl _ rfl rfl Try.underlying36 rfl (by kernel_rfl)) rfl ⟨_, by rw [H0.out]; rfl, HE.out.2.2, fun _ => ?_, fun h => absurd H0.out h⟩
            rw [Hlast.out]
            exact HE.out.2.1
        · have hlt2 : decide ((M.steps : Int) < fuel) = false := by simpa using hlt
          have Hlast : Hid (F = M) := Lib.hid (by rw [← Hrun.out, show fuel.toNat - M.steps = 0 by omega]; rfl)
          have PE := PP
          have HOK := Lib.hid Hgo.out.ok
          clear hlt
          go_wp2_with fail
          have C := done_c p Hr.out HOK.out _ (HP.out.ext X.out) XE.out PE.out
          (with_reducible refine C.mono ?_)
          clear C
          rintro e w4 ⟨u, rfl, hu, hx4⟩
          have HU := Lib.hid hu
          obtain ⟨vs, vm', U, rfl, hs1, hs2⟩ := hu
          obtain ⟨os, osc, rfl⟩ := own_slice hs1
          obtain ⟨om, omk, omc, rfl⟩ : ∃ a b c, vm' = .slice a b c := by
            obtain ⟨vs, h1, h2, -⟩ := hs2
            obtain ⟨a, c, h⟩ := own_slice h2
            exact ⟨a, _, c, h⟩
          have bR4 := BR0.out.ext hx4
          have r0 : w4.cell? ⟨gb + 1, 0, none⟩ = some (.int .i64 0) ∧ w4.frozen? ⟨gb + 1, 0, none⟩ = false := ⟨by rw [bR4.cell]; rfl, bR4.frozen _⟩
          have r1 : w4.cell? ⟨gb + 1, 1, none⟩ = some (.int .i64 0) ∧ w4.frozen? ⟨gb + 1, 1, none⟩ = false := ⟨by rw [bR4.cell]; rfl, bR4.frozen _⟩
          have r2 : w4.cell? ⟨gb + 1, 2, none⟩ = some (.int .i64 0) ∧ w4.frozen? ⟨gb + 1, 2, none⟩ = false := ⟨by rw [bR4.cell]; rfl, bR4.frozen _⟩
          have r3 : w4.cell? ⟨gb + 1, 3, none⟩ = some (.slice none 0 0) ∧ w4.frozen? ⟨gb + 1, 3, none⟩ = false := ⟨by rw [bR4.cell]; rfl, bR4.frozen _⟩
          have r4 : w4.cell? ⟨gb + 1, 4, none⟩ = some (.slice none 0 0) ∧ w4.frozen? ⟨gb + 1, 4, none⟩ = false := ⟨by rw [bR4.cell]; rfl, bR4.frozen _⟩
          have X4 := Lib.hid hx4
          have HW64 := Lib.hid HOK.out.w64
          clear hs1 hs2 hx4 g2 g4 g18 c1
          go_wp2
          have hE := shown_put (F := M) HU.out HW64.out bR4 hrl (Nat.le_succ_of_le Hb.out) X.out X4.out rfl
          have HE := Lib.hid hE
          clear hE
          refine bodyPost_ret (results_ct (HE.out.1) rfl _ rfl rfl Try.underlying36 rfl (by kernel_rfl)) rfl ⟨_, by rw [H0.out]; rfl, HE.out.2.2, fun _ => ?_, fun h => absurd H0.out h⟩
          rw [Hlast.out]
          exact HE.out.2.1
      · have Hlast : Hid (F = M) := Lib.hid (by rw [← Hrun.out]; exact (runM_end hfin _).symm ▸ rfl)
        have PE := PP
        have HOK := Lib.hid Hgo.out.ok
        have hfd : (M.fin == (0 : Int)) = false := by simpa using hfin
        clear hfin
        go_wp2_with fail
        have C := done_c p Hr.out HOK.out _ (HP.out.ext X.out) XE.out PE.out
        (with_reducible refine C.mono ?_)
        clear C
        rintro e w4 ⟨u, rfl, hu, hx4⟩
        have HU := Lib.hid hu
        obtain ⟨vs, vm', U, rfl, hs1, hs2⟩ := hu
        obtain ⟨os, osc, rfl⟩ := own_slice hs1
        obtain ⟨om, omk, omc, rfl⟩ : ∃ a b c, vm' = .slice a b c := by
          obtain ⟨vs, h1, h2, -⟩ := hs2
          obtain ⟨a, c, h⟩ := own_slice h2
          exact ⟨a, _, c, h⟩
        have bR4 := BR0.out.ext hx4
        have r0 : w4.cell? ⟨gb + 1, 0, none⟩ = some (.int .i64 0) ∧ w4.frozen? ⟨gb + 1, 0, none⟩ = false := ⟨by rw [bR4.cell]; rfl, bR4.frozen _⟩
        have r1 : w4.cell? ⟨gb + 1, 1, none⟩ = some (.int .i64 0) ∧ w4.frozen? ⟨gb + 1, 1, none⟩ = false := ⟨by rw [bR4.cell]; rfl, bR4.frozen _⟩
        have r2 : w4.cell? ⟨gb + 1, 2, none⟩ = some (.int .i64 0) ∧ w4.frozen? ⟨gb + 1, 2, none⟩ = false := ⟨by rw [bR4.cell]; rfl, bR4.frozen _⟩
        have r3 : w4.cell? ⟨gb + 1, 3, none⟩ = some (.slice none 0 0) ∧ w4.frozen? ⟨gb + 1, 3, none⟩ = false := ⟨by rw [bR4.cell]; rfl, bR4.frozen _⟩
        have r4 : w4.cell? ⟨gb + 1, 4, none⟩ = some (.slice none 0 0) ∧ w4.frozen? ⟨gb + 1, 4, none⟩ = false := ⟨by rw [bR4.cell]; rfl, bR4.frozen _⟩
        have X4 := Lib.hid hx4
        have HW64 := Lib.hid HOK.out.w64
        clear hs1 hs2 hx4 g2 g4 g18 c1
        go_wp2
        have hE := shown_put (F := M) HU.out HW64.out bR4 hrl (Nat.le_succ_of_le Hb.out) X.out X4.out rfl
        have HE := Lib.hid hE
        clear hE
        refine bodyPost_ret (results_ct (HE.out.1) rfl _ rfl rfl Try.underlying36 rfl (by kernel_rfl)) rfl ⟨_, by rw [H0.out]; rfl, HE.out.2.2, fun _ => ?_, fun h => absurd H0.out h⟩
        rw [Hlast.out]
        exact HE.out.2.1
  · have H0 := Lib.hid h0
    have hne : (mayE p m fuel != 0) = true := by simpa using h0
    generalize hc : mayE p m fuel = c at *
    clear h0
    go_wp2
    have hBk := ((((bR.set_ 0 (.int .i64 0)).set_ 1 (.int .i64 0)).set_ 2 (.int .i64 0)).set_ 3 (.slice none 0 0)).set_ 4 (.slice none 0 0)
    have hg0 : w.heap.size ≤ gb + 1 := Nat.le_succ_of_le Hb.out
    exact bodyPost_ret (results_ct hBk rfl _ rfl rfl Try.underlying36 rfl (by kernel_rfl)) rfl ⟨_, by rw [hc]; rfl, ((((X.out.setCell hg0 _).setCell hg0 _).setCell hg0 _).setCell hg0 _).setCell hg0 _, fun h => absurd (hc.symm.trans h) H0.out, fun _ => shown_nil _⟩
end Go.Proofs.Yteiknefajlocoaa
/- Walks of the reference's Seen, Memories and Same (chapter 3), of what is the same. -/
namespace Go.Proofs.Yteiknefajlocoaa
open Go.ChangeShapes Go.WideShapes Go.ChangeAt Go.RowKit
set_option linter.unusedVariables false
set_option linter.unusedSimpArgs false

theorem index_see {oa : Option Addr} {n b o cap : Nat} (h : 0 < n → oa = some ⟨b, o, none⟩) (W : World) (i : Int) (h0 : 0 ≤ i) (h1 : i < n) :
    (Instr.indexAt 34 (.slice oa n cap) (.int .i64 i)).run Try.prog W = .ok (.pointer (some ⟨b, o + i.toNat * 3, none⟩)) W := by
  obtain rfl := h (by omega)
  have hs : (Try.prog.info? 98).map (·.size) = some 3 := by kernel_rfl
  simp [Instr.indexAt, run_underlying Try.underlying34, asIntOf, h0, h1]
  exact addr_add b o _
theorem see_ne (a b c : Int) (w : World) : (binOp .neq 98 (.agg #[.int .i64 a, .int .i64 b, .int .i64 c]) (.agg #[.int .i64 a, .int .i64 b, .int .i64 c])).run Try.prog w = .ok (.bool false) w := by
  go_simp
set_option maxHeartbeats 2000000 in
theorem rSeenEq_c (l : List LSee) (v u : Value) (w : World) (hv : SeenAt w v l) (hu : SeenAt w u l) :
    Calls Try.prog 68 #[v, u] w fun e w' => e = .returned (.bool true) ∧ Ext w w' := by
  obtain ⟨oa, cap, b, o, rfl, hc1, hc2, hrow⟩ := hv
  obtain ⟨ob, capb, b2, o2, rfl, hd1, hd2, hrow2⟩ := hu
  have hlen := len_bd hc1 hc2
  have hix := index_see (cap := cap) hrow.at_
  have hix2 := index_see (cap := capb) hrow2.at_
  have Hrow := Lib.hid hrow
  have Hrow2 := Lib.hid hrow2
  have hne := see_ne
  have hq1 : ((l.length : Int) != (l.length : Int)) = false := by simp
  clear hrow hrow2 hc1 hc2 hd1 hd2
  go_enter Try.func68, Try.ntmps68
  go_wp2_with fail
  go_loopw [5] (fun i wr => ∃ j : Nat, j ≤ l.length ∧ i = .int .i64 j ∧ Ext w wr) (fun i _ => l.length - (intOf i).toNat)
  case atStart => exact ⟨0, by omega, rfl, Ext.refl _⟩
  case round =>
    obtain ⟨j, hj, rfl, hE⟩ := hrel
    have X := Lib.hid hE
    clear hE
    by_cases hlt : j < l.length
    · obtain ⟨e0, e1, e2⟩ := (Hrow.out.ext X.out).see j hlt
      obtain ⟨f0, f1, f2⟩ := (Hrow2.out.ext X.out).see j hlt
      generalize l.getD j default = x at *
      have k0 : ∀ W, Ext wr W → W.cell? ⟨b, o + j * 3, none⟩ = some (.int .i64 x.kind) := fun _ h => h.kept e0
      have k1 : ∀ W, Ext wr W → W.cell? ⟨b, o + j * 3 + 1, none⟩ = some (.int .i64 x.a) := fun _ h => h.kept e1
      have k2 : ∀ W, Ext wr W → W.cell? ⟨b, o + j * 3 + 2, none⟩ = some (.int .i64 x.b) := fun _ h => h.kept e2
      have l0 : ∀ W, Ext wr W → W.cell? ⟨b2, o2 + j * 3, none⟩ = some (.int .i64 x.kind) := fun _ h => h.kept f0
      have l1 : ∀ W, Ext wr W → W.cell? ⟨b2, o2 + j * 3 + 1, none⟩ = some (.int .i64 x.a) := fun _ h => h.kept f1
      have l2 : ∀ W, Ext wr W → W.cell? ⟨b2, o2 + j * 3 + 2, none⟩ = some (.int .i64 x.b) := fun _ h => h.kept f2
      clear e0 e1 e2 f0 f1 f2
      go_upto_region 6 with fail
      refine region_calm 9 (by kernel_rfl) (by kernel_rfl) ?_
      simp only [List.take_succ_cons, List.take_zero, List.drop_succ_cons, List.drop_zero]
      repeat (first | (refine calm_fresh ?_ ?_ (fun wc hE => ?_) ?_; (decide); rfl; (focus (go_simp; done)); go_simp) | (refine calm_value ?_ ?_ ?_; (decide); (first | rfl | (focus (go_simp; done))); apply Exists.intro; refine ⟨fun wc hE => ?_, ?_⟩; (go_simp; exact rfl); go_simp) | (refine calm_call ?_ ?_ ?_; (decide); (first | rfl | (focus (go_simp; done))); apply Exists.intro; refine ⟨fun wc hE => ?_, ?_⟩; (go_simp; (first | fail)); go_simp) | (refine calm_skip ?_ ?_ ?_; (decide); (focus (go_simp; done)); go_simp))
      refine calm_nil ?_
      intro wx hx
      have X := Lib.hid (X.out.trans hx)
      clear hx k0 k1 k2 l0 l1 l2
      go_wp2
      go_roundw
      case rel => exact ⟨j + 1, by omega, by go_num, X.out⟩
      case measure => first | (simp [intOf]; done) | (simp [intOf]; omega)
    · go_wp2
      go_ret
      exact ⟨rfl, X.out⟩
theorem i64_ne (x : Int) : (x != x) = false := by simp
set_option maxHeartbeats 4000000 in
theorem rMemEq_c (m : List (List Int)) (v u : Value) (w : World) (hv : MemAt w v m) (hu : MemAt w u m) :
    Calls Try.prog 49 #[v, u] w fun e w' => e = .returned (.bool true) ∧ Ext w w' := by
  obtain ⟨oa, cap, b, o, rfl, hc1, hc2, vs, hrow, hin⟩ := hv
  obtain ⟨ob, capb, b2, o2, rfl, hd1, hd2, us, hrow2, hin2⟩ := hu
  have hlen := len_bd hc1 hc2
  have hix := index_mem' (cap := cap) hrow.at_
  have hix2 := index_mem' (cap := capb) hrow2.at_
  have Hrow := Lib.hid hrow
  have Hrow2 := Lib.hid hrow2
  have Hin := Lib.hid hin
  have Hin2 := Lib.hid hin2
  have hne := i64_ne
  have hq1 : ((m.length : Int) != (m.length : Int)) = false := by simp
  clear hrow hrow2 hc1 hc2 hd1 hd2 hin hin2
  go_enter Try.func49, Try.ntmps49
  go_wp2_with fail
  go_loopw [5] (fun i wr => ∃ j : Nat, j ≤ m.length ∧ i = .int .i64 j ∧ Ext w wr) (fun i _ => m.length - (intOf i).toNat)
  case atStart => exact ⟨0, by omega, rfl, Ext.refl _⟩
  case round =>
    obtain ⟨j, hj, rfl, hE⟩ := hrel
    have X := Lib.hid hE
    clear hE
    by_cases hlt : j < m.length
    · have e0 := (Hrow.out.ext X.out).one j hlt
      have f0 := (Hrow2.out.ext X.out).one j hlt
      have h1 := (Hin.out j hlt).ext X.out
      have h2 := (Hin2.out j hlt).ext X.out
      generalize m.getD j default = l at *
      generalize vs j = vj at *
      generalize us j = uj at *
      obtain ⟨-, oc, capc, b3, o3, rfl, hc3, hc4, r3⟩ := h1
      obtain ⟨-, od, capd, b4, o4, rfl, hd3, hd4, r4⟩ := h2
      have hlen2 := len_bd hc3 hc4
      have hq2 : ((l.length : Int) != (l.length : Int)) = false := by simp
      have hiy := index_i64 (cap := capc) r3.at_
      have hiy2 := index_i64 (cap := capd) r4.at_
      have R3 := Lib.hid r3
      have R4 := Lib.hid r4
      have k0 : ∀ W, Ext wr W → W.cell? ⟨b, o + j, none⟩ = some (.slice oc l.length capc) := fun _ h => h.kept e0
      have k1 : ∀ W, Ext wr W → W.cell? ⟨b2, o2 + j, none⟩ = some (.slice od l.length capd) := fun _ h => h.kept f0
      clear r3 r4 hc3 hc4 hd3 hd4
      go_upto_region 6 with fail
      refine region_calm 11 (by kernel_rfl) (by kernel_rfl) ?_
      simp only [List.take_succ_cons, List.take_zero, List.drop_succ_cons, List.drop_zero]
      repeat (first | (refine calm_fresh ?_ ?_ (fun wc hE => ?_) ?_; (decide); rfl; (focus (go_simp; done)); go_simp) | (refine calm_value ?_ ?_ ?_; (decide); (first | rfl | (focus (go_simp; done))); apply Exists.intro; refine ⟨fun wc hE => ?_, ?_⟩; (go_simp; exact rfl); go_simp) | (refine calm_call ?_ ?_ ?_; (decide); (first | rfl | (focus (go_simp; done))); apply Exists.intro; refine ⟨fun wc hE => ?_, ?_⟩; (go_simp; (first | fail)); go_simp) | (refine calm_skip ?_ ?_ ?_; (decide); (focus (go_simp; done)); go_simp))
      refine calm_nil ?_
      intro wx hx
      have HE := Lib.hid hx
      have X := Lib.hid (X.out.trans hx)
      clear k0 k1
      have e0 := hx.kept e0
      have f0 := hx.kept f0
      clear hx
      go_wp2_with fail
      obtain ⟨w1, hw1⟩ : ∃ w1, w1 = wx := ⟨_, rfl⟩
      subst hw1
      go_loopw [6] (fun i wr => ∃ k : Nat, k ≤ l.length ∧ i = .int .i64 k ∧ Ext w1 wr) (fun i _ => l.length - (intOf i).toNat)
      case atStart => exact ⟨0, by omega, rfl, Ext.refl _⟩
      case round =>
        obtain ⟨k, hk, rfl, hE⟩ := hrel
        have e0 := hE.kept e0
        have f0 := hE.kept f0
        have HE2 := Lib.hid (HE.out.trans hE)
        have HE1 := Lib.hid hE
        clear hE
        by_cases hltk : k < l.length
        · have e1 := (R3.out.ext HE2.out).one k hltk
          have f1 := (R4.out.ext HE2.out).one k hltk
          generalize l.getD k default = x at *
          have k0 : ∀ W, Ext wr W → W.cell? ⟨b, o + j, none⟩ = some (.slice oc l.length capc) := fun _ h => h.kept e0
          have k1 : ∀ W, Ext wr W → W.cell? ⟨b2, o2 + j, none⟩ = some (.slice od l.length capd) := fun _ h => h.kept f0
          have k2 : ∀ W, Ext wr W → W.cell? ⟨b3, o3 + k, none⟩ = some (.int .i64 x) := fun _ h => h.kept e1
          have k3 : ∀ W, Ext wr W → W.cell? ⟨b4, o4 + k, none⟩ = some (.int .i64 x) := fun _ h => h.kept f1
          clear f0 e1 f1
          go_upto_region 11 with fail
          refine region_calm 15 (by kernel_rfl) (by kernel_rfl) ?_
          simp only [List.take_succ_cons, List.take_zero, List.drop_succ_cons, List.drop_zero]
          repeat (first | (refine calm_fresh ?_ ?_ (fun wc hE => ?_) ?_; (decide); rfl; (focus (go_simp; done)); go_simp) | (refine calm_value ?_ ?_ ?_; (decide); (first | rfl | (focus (go_simp; done))); apply Exists.intro; refine ⟨fun wc hE => ?_, ?_⟩; (go_simp; exact rfl); go_simp) | (refine calm_call ?_ ?_ ?_; (decide); (first | rfl | (focus (go_simp; done))); apply Exists.intro; refine ⟨fun wc hE => ?_, ?_⟩; (go_simp; (first | fail)); go_simp) | (refine calm_skip ?_ ?_ ?_; (decide); (focus (go_simp; done)); go_simp))
          refine calm_nil ?_
          intro wy hy
          have HE1 := Lib.hid (HE1.out.trans hy)
          clear hy k0 k1 k2 k3 e0
          go_wp2
          go_roundw
          case rel => exact ⟨k + 1, by omega, by go_num, HE1.out⟩
          case measure => first | (simp [intOf]; done) | (simp [intOf]; omega)
        · have hje : k = l.length := by omega
          subst hje
          have hlt2 : decide ((l.length : Int) < (l.length : Int)) = false := by simp
          go_wp2
          go_roundw
          case rel => exact ⟨j + 1, by omega, by go_num, X.out.trans HE1.out⟩
          case measure => first | (simp [intOf]; done) | (simp [intOf]; omega)
    · have hje : j = m.length := by omega
      subst hje
      have hlt2 : decide ((m.length : Int) < (m.length : Int)) = false := by simp
      go_wp2
      go_ret
      exact ⟨rfl, X.out⟩
set_option maxHeartbeats 4000000 in
theorem rSame3_c (v u : Value) (fin value : Int) (steps : Nat) (seen : List LSee) (mem : List (List Int)) (w : World) (hv : ShownAt w v fin value steps seen mem) (hu : ShownAt w u fin value steps seen mem) :
    Calls Try.prog 33 #[v, u] w fun e w' => e = .returned (.bool true) ∧ Ext w w' := by
  obtain ⟨vs, vm, rfl, hs, hm⟩ := hv
  obtain ⟨us, um, rfl, hs2, hm2⟩ := hu
  have Hs := Lib.hid hs
  have Hm := Lib.hid hm
  have Hs2 := Lib.hid hs2
  have Hm2 := Lib.hid hm2
  have hqa : ∀ x : Int, (x == x) = true := by simp
  clear hs hm hs2 hm2
  go_enter Try.func33, Try.ntmps33
  go_wp2_with fail
  obtain ⟨W, g, hg, hW, hx, bA, bB⟩ := blocks2 w #[.int .i64 fin, .int .i64 value, .int .i64 steps, vs, vm] #[.int .i64 fin, .int .i64 value, .int .i64 steps, us, um] 36 36
  rw [hW, hg]
  have X := Lib.hid hx
  have k4 : W.cell? ⟨g, 4, none⟩ = some vm := by rw [bA.cell]; rfl
  have l4 : W.cell? ⟨g + 1, 4, none⟩ = some um := by rw [bB.cell]; rfl
  clear hW hg hx bA bB
  (with_reducible refine (rSeenEq_c seen vs us W (Hs.out.ext X.out) (Hs2.out.ext X.out)).mono ?_)
  rintro e w1 ⟨rfl, hx⟩
  have X := Lib.hid (X.out.trans hx)
  have k4 := hx.kept k4
  have l4 := hx.kept l4
  clear hx
  go_wp2_with fail
  (with_reducible refine (rMemEq_c mem vm um w1 (Hm.out.ext X.out) (Hm2.out.ext X.out)).mono ?_)
  rintro e w2 ⟨rfl, hx⟩
  have X := Lib.hid (X.out.trans hx)
  clear hx k4 l4
  go_wp2
  go_ret
  exact ⟨rfl, X.out⟩
end Go.Proofs.Yteiknefajlocoaa
/- The walk of SeqRuns. -/
namespace Go.Proofs.Yteiknefajlocoaa
open Go.ChangeShapes Go.WideShapes Go.ChangeAt Go.RowKit
set_option linter.unusedVariables false
set_option linter.unusedSimpArgs false

/-- what is shown, spelt out -/
theorem shown_parts {w : World} {v : Value} {fin value : Int} {steps : Nat} {seen : List LSee} {mem : List (List Int)} (h : ShownAt w v fin value steps seen mem) :
    ∃ a c b d, v = .agg #[.int .i64 fin, .int .i64 value, .int .i64 steps, .slice a seen.length c, .slice b mem.length d] := by
  obtain ⟨vs, vm, rfl, ⟨oa, cap, b, o, rfl, -⟩, ⟨ob, capb, b2, o2, rfl, -⟩⟩ := h
  exact ⟨_, _, _, _, rfl⟩
set_option maxRecDepth 100000 in
set_option maxHeartbeats 4000000 in
theorem seqRuns_walk {p : LProg} {v : Value} {m : List (List Int)} {vm : Value} {w : World} (hp : ProgAt w v p) (hm : MemAt w vm m) (fuel : Int) (hf : R64 fuel) :
    Calls Try.prog 6 #[v, vm, .int .i64 fuel] w fun e w' => e = .returned (.bool true) ∧ Ext w w' := by
  have HP := Lib.hid hp
  have HM := Lib.hid hm
  have Hf := Lib.hid hf
  obtain ⟨a0, a1, a2, b0, b1, b2, rfl⟩ := prog_sl hp
  clear hp hm
  by_cases hq : 4000 < fuel ∧ fuel ≤ 40000
  · obtain ⟨q1, q2⟩ := hq
    go_enter Try.func6, Try.ntmps6
    go_wp2
    go_ret
    exact ⟨rfl, (Ext.refl _).alloc _⟩
  have hq' : fuel ≤ 4000 ∨ 40000 < fuel := by omega
  have hd : decide (4000 < fuel) = false ∨ (decide (4000 < fuel) = true ∧ decide (fuel ≤ 40000) = false) := by
    rcases hq' with h | h
    · exact .inl (decide_eq_false (by omega))
    · exact .inr ⟨decide_eq_true (by omega), decide_eq_false (by omega)⟩
  clear hq hq'
  go_enter Try.func6, Try.ntmps6
  rcases hd with hd | ⟨hd, hd2⟩
  all_goals
    go_wp2_with fail
    obtain ⟨W, gp, hg, hW, hx, bA⟩ := block1 w #[.slice a0 a1 a2, .slice b0 b1 b2] 25
    rw [hW, hg]
    have X := Lib.hid hx
    clear hW hg hx
    have C := run_c p m fuel _ vm W (HP.out.ext X.out) (HM.out.ext X.out) Hf.out
    (with_reducible refine C.mono ?_)
    clear C
    rintro e w1 ⟨u, rfl, hx, hA, hB⟩
    have X := Lib.hid (X.out.trans hx)
    have bA := bA.ext hx
    have hgpl := bA.lt
    clear hx
    by_cases h0 : mayE p m fuel = 0
    · have HS := Lib.hid (hA h0)
      have H0 := Lib.hid h0
      obtain ⟨hh, hfit, hf0, hf4⟩ := mayE_ok h0
      have Hh := Lib.hid hh
      have Hfit := Lib.hid hfit
      generalize hF : runM p fuel.toNat (start m.flatten) = F at HS
      have HF := Lib.hid hF
      obtain ⟨s1, s2, s3, s4, rfl⟩ := shown_parts HS.out
      rw [h0]
      have c0 : w1.cell? ⟨gp, 0, none⟩ = some (.slice a0 a1 a2) := by rw [bA.cell]; rfl
      have c1 : w1.cell? ⟨gp, 1, none⟩ = some (.slice b0 b1 b2) := by rw [bA.cell]; rfl
      clear hA hB h0 hh hfit hF hd
      go_wp2_with fail
      obtain ⟨w2, gs, hg, hW, hx, bS⟩ := block1 w1 #[.int .i64 F.fin, .int .i64 F.value, .int .i64 F.steps, .slice s1 F.seen.length s2, .slice s3 (splitW p F.words).length s4] 36
      rw [hW, hg]
      have X := Lib.hid (X.out.trans hx)
      have HS := Lib.hid (HS.out.ext hx)
      have bA := bA.ext hx
      have C := wrong3_c p m fuel _ vm w2 (HP.out.ext X.out) (HM.out.ext X.out) Hf.out
      rw [H0.out] at C
      clear hW hg hx c0 c1
      (with_reducible refine C.mono ?_)
      clear C
      rintro e w3 ⟨rfl, hx⟩
      have X := Lib.hid (X.out.trans hx)
      have HS := Lib.hid (HS.out.ext hx)
      have bA := bA.ext hx
      have bS := bS.ext hx
      have c0 : w3.cell? ⟨gp, 0, none⟩ = some (.slice a0 a1 a2) := by rw [bA.cell]; rfl
      have c1 : w3.cell? ⟨gp, 1, none⟩ = some (.slice b0 b1 b2) := by rw [bA.cell]; rfl
      clear hx
      go_wp2_with fail
      have C := rPlay_c p m fuel _ vm w3 (HP.out.ext X.out) (HM.out.ext X.out) Hh.out Hfit.out hf4 Hf.out
      rw [HF.out] at C
      (with_reducible refine C.mono ?_)
      clear C
      rintro e w4 ⟨u2, rfl, hS2, hx⟩
      have X := Lib.hid (X.out.trans hx)
      have HS := Lib.hid (HS.out.ext hx)
      have HS2 := Lib.hid hS2
      obtain ⟨t1, t2, t3, t4, rfl⟩ := shown_parts hS2
      have bS := bS.ext hx
      have s0 : w4.cell? ⟨gs, 0, none⟩ = some (.int .i64 F.fin) := by rw [bS.cell]; rfl
      have s1' : w4.cell? ⟨gs, 1, none⟩ = some (.int .i64 F.value) := by rw [bS.cell]; rfl
      have s2' : w4.cell? ⟨gs, 2, none⟩ = some (.int .i64 F.steps) := by rw [bS.cell]; rfl
      have s3' : w4.cell? ⟨gs, 3, none⟩ = some (.slice s1 F.seen.length s2) := by rw [bS.cell]; rfl
      have s4' : w4.cell? ⟨gs, 4, none⟩ = some (.slice s3 (splitW p F.words).length s4) := by rw [bS.cell]; rfl
      have hgsl := bS.lt
      clear hx hS2 bA bS c0 c1
      go_wp2_with fail
      have hx : Ext w4 (w4.alloc (.cells #[.int .i64 F.fin, .int .i64 F.value, .int .i64 F.steps, .slice t1 F.seen.length t2, .slice t3 (splitW p F.words).length t4] 36)) := (Ext.refl _).alloc _
      have C := rSame3_c _ _ _ _ _ _ _ _ (HS.out.ext hx) (HS2.out.ext hx)
      (with_reducible refine C.mono ?_)
      clear C
      rintro e w5 ⟨rfl, hx5⟩
      have X := Lib.hid ((X.out.trans hx).trans hx5)
      clear hx5 hx s0 s1' s2' s3' s4'
      go_wp2
      go_ret
      exact ⟨rfl, X.out⟩
    · have HS := Lib.hid (hB h0)
      have Hc := Lib.hid (rfl : mayE p m fuel = mayE p m fuel)
      have C0 := fun W (X : Ext w W) => wrong3_c p m fuel _ vm W (HP.out.ext X) (HM.out.ext X) Hf.out
      have hne : (mayE p m fuel != 0) = true := by simpa using h0
      have heq : (mayE p m fuel == mayE p m fuel) = true := by simp
      clear hA hB h0 hd
      generalize mayE p m fuel = c at *
      have C0 := Lib.hid C0
      obtain ⟨s1, s2, s3, s4, rfl⟩ := shown_parts HS.out
      have c0 : w1.cell? ⟨gp, 0, none⟩ = some (.slice a0 a1 a2) := by rw [bA.cell]; rfl
      have c1 : w1.cell? ⟨gp, 1, none⟩ = some (.slice b0 b1 b2) := by rw [bA.cell]; rfl
      go_wp2_with fail
      obtain ⟨w2, gs, hg, hW, hx, bS⟩ := block1 w1 #[.int .i64 0, .int .i64 0, .int .i64 0, .slice s1 0 s2, .slice s3 0 s4] 36
      rw [hW, hg]
      have X := Lib.hid (X.out.trans hx)
      have HS := Lib.hid (HS.out.ext hx)
      (with_reducible refine (C0.out w2 X.out).mono ?_)
      clear C0 hW hg hx c0 c1 bA
      rintro e w3 ⟨rfl, hx⟩
      have X := Lib.hid (X.out.trans hx)
      have HS := Lib.hid (HS.out.ext hx)
      have bS := bS.ext hx
      have s0 : w3.cell? ⟨gs, 0, none⟩ = some (.int .i64 0) := by rw [bS.cell]; rfl
      have s1' : w3.cell? ⟨gs, 1, none⟩ = some (.int .i64 0) := by rw [bS.cell]; rfl
      have s2' : w3.cell? ⟨gs, 2, none⟩ = some (.int .i64 0) := by rw [bS.cell]; rfl
      have s3' : w3.cell? ⟨gs, 3, none⟩ = some (.slice s1 0 s2) := by rw [bS.cell]; rfl
      have s4' : w3.cell? ⟨gs, 4, none⟩ = some (.slice s3 0 s4) := by rw [bS.cell]; rfl
      clear hx bS
      go_wp2_with fail
      have C : Calls Try.prog 33 #[.agg #[.int .i64 0, .int .i64 0, .int .i64 0, .slice s1 0 s2, .slice s3 0 s4], .agg #[.int .i64 0, .int .i64 0, .int .i64 0, .slice none 0 0, .slice none 0 0]] w3 (fun e w' => e = .returned (.bool true) ∧ Ext w3 w') := rSame3_c _ _ 0 0 0 [] [] w3 HS.out (shown_nil w3)
      (with_reducible refine C.mono ?_)
      clear C
      rintro e w5 ⟨rfl, hx5⟩
      have X := Lib.hid (X.out.trans hx5)
      clear hx5 s0 s1' s2' s3' s4'
      go_wp2
      go_ret
      exact ⟨rfl, X.out⟩
end Go.Proofs.Yteiknefajlocoaa
/- Arguments opened: programs, memories, regions, words, scripts. (open_slice_fields: the kit's own lemma, copied out of howto/extra-structs.md as that page asks.) -/
namespace Go.Proofs.Yteiknefajlocoaa
open Go.ChangeShapes Go.WideShapes Go.ChangeAt Go.RowKit Go.Joins Go.Deep
set_option linter.unusedVariables false
set_option linter.unusedSimpArgs false

section
variable {H : Type} {enc : TypeId × Value → H} {P : Program} {w : World} {base : Nat} {spare : Nat → Bool} {held : Bool}
theorem open_slice_fields {t e : TypeId} {fs : Array Field} {fuel : Nat} {cs : List Value} {x : DataW H × List MemPlace} (ht : P.underlying t = some (.slice e)) (he : P.underlying e = some (.struct fs))
    (hone : oneCellFields P fs = true) (hC : P.cellsOf e = fs.size) (h : DataW.trod enc P w base spare held fuel t cs = some x) :
    (cs = [.slice none 0 0] ∧ x = (.nil, [])) ∨
    ∃ (a : Addr) (len cap m : Nat), cs = [.slice (some a) len cap] ∧ base ≤ a.block ∧ len ≤ cap ∧ cap ≤ maxLen ∧ len ≤ m ∧
      ∀ i, i < m → ∃ (ys : List (DataW H × List MemPlace)) (n : Nat), ys.length = fs.size ∧
        ∀ (j : Nat) (f : Field), fs[j]? = some f → ∃ (v : Value) (y : DataW H × List MemPlace), w.cell? (a.add (i * fs.size + j)) = some v ∧ ys[j]? = some y ∧ DataW.trod enc P w base spare held n f.type [v] = some y := by
  rcases open_slice ht h with h0 | ⟨a, len, cap, m, n, D, Pl, hcs, hb, hl, hm, hmm, hx, hi⟩
  · exact .inl h0
  · refine .inr ⟨a, len, cap, m, hcs, hb, hl, hm, by rw [hmm]; split <;> omega, fun i him => ?_⟩
    obtain ⟨cs', hc, ht'⟩ := hi i him
    rw [hC] at hc
    obtain ⟨ys, n', hn', hy, hlen, hyl, hf⟩ := DataW.trod_struct he ht'
    obtain ⟨_, hcl, hat⟩ := World.cells?_some hc
    refine ⟨ys, n', hyl, fun j f hj => ?_⟩
    obtain ⟨ho, hk⟩ := hone_of hone j f hj
    have hjl : j < fs.size := (Array.getElem?_eq_some_iff.1 hj).1
    have hcell := hat j hjl
    have hv : cs'[j]? = some (cs'[j]'(by omega)) := List.getElem?_eq_getElem (by omega)
    have h1 := hf j f hj
    rw [ho, hk] at h1
    have hone' : (cs'.drop j).take 1 = [cs'[j]'(by omega)] := by
      rw [List.drop_eq_getElem_cons (by omega)]
      rfl
    rw [hone'] at h1
    have hys : ys[j]? = some (ys[j]'(by omega)) := List.getElem?_eq_getElem (by omega)
    refine ⟨_, _, ?_, hys, h1.trans hys⟩
    rw [← Go.Deep.add_add, hcell, hv]
theorem spot_none {a : Addr} {v : Value} (h : w.cell? a = some v) : a = ⟨a.block, a.off, none⟩ := by
  obtain ⟨b, o, s⟩ := a
  cases s with
  | none => rfl
  | some s =>
    exfalso
    unfold World.cell? at h
    cases hb : w.heap[b]? with
    | none => rw [hb] at h; simp at h
    | some ob => rw [hb] at h; cases ob <;> simp at h
theorem add_none (b o n : Nat) : Addr.add ⟨b, o, none⟩ n = ⟨b, o + n, none⟩ := by
  unfold Addr.add
  split
  · subst_vars; rfl
  · rfl
/-- a row of elements that read as a list's -/
theorem rows_of {α : Type} [Inhabited α] {a : Addr} {len c : Nat} {p : α → Prop} {f : α → Nat → Value} (hc : 0 < c) (h : ∀ i, i < len → ∃ x : α, p x ∧ ∀ j, j < c → w.cell? (a.add (i * c + j)) = some (f x j)) :
    ∃ l : List α, l.length = len ∧ (∀ x ∈ l, p x) ∧ ∃ b o, Rows w (some a) b o len c fun i => f (l.getD i default) := by
  obtain ⟨F, hF⟩ := choose_lt (p := fun i x => p x ∧ ∀ j, j < c → w.cell? (a.add (i * c + j)) = some (f x j)) h
  refine ⟨(List.range len).map F, by simp, fun x hx => ?_, a.block, a.off, ?_⟩
  · simp only [List.mem_map, List.mem_range] at hx
    obtain ⟨i, hi, rfl⟩ := hx
    exact (hF i hi).1
  · by_cases h0 : 0 < len
    · have hs := (hF 0 h0).2 0 hc
      have e0 : a.add (0 * c + 0) = a := by unfold Addr.add; simp
      rw [e0] at hs
      have ea := spot_none hs
      refine ⟨fun _ => by rw [← ea], fun i j hi hj => ?_⟩
      have := (hF i hi).2 j hj
      rw [ea, add_none] at this
      have eg : ((List.range len).map F).getD i default = F i := by simp [hi]
      rw [eg, ← this, Nat.add_assoc]
    · exact ⟨fun h => absurd h h0, fun i j hi hj => by omega⟩
theorem rows_nil (c : Nat) (f : Nat → Nat → Value) : Rows w none 0 0 0 c f := ⟨fun h => by omega, fun i j hi hj => by omega⟩
end
section
variable {H : Type} {enc : TypeId × Value → H} {W : World} {base : Nat} {sp : Nat → Bool} {held : Bool}
theorem r64_of {a : Int} (h : (Lit.int .i64 a).wf = true) : R64 a := bounds_i64 h
theorem trod_regs {n : Nat} {v : Value} {x : DataW H × List MemPlace} (h : DataW.trod enc Try.prog W base sp held n 22 [v] = some x) : ∃ l, RegsAt W v l := by
  rcases open_slice_fields Try.underlying22 Try.underlying68 (by kernel_rfl) (by kernel_rfl) h with ⟨hv, -⟩ | ⟨a, len, cap, m, hv, -, h1, h2, h3, hi⟩
  · simp only [List.cons.injEq, and_true] at hv
    subst hv
    exact ⟨[], by simp, none, 0, 0, 0, rfl, by simp, by decide, rows_nil _ _⟩
  · simp only [List.cons.injEq, and_true] at hv
    subst hv
    obtain ⟨l, e1, e2, b, o, e3⟩ := rows_of (α := LReg) (w := W) (a := a) (len := len) (c := 2) (p := fun r => R64 r.log) (f := regCell) (by omega) (fun i hil => by
      obtain ⟨ys, k, -, hf⟩ := hi i (by omega)
      obtain ⟨v0, y0, c0, -, t0⟩ := hf 0 _ rfl
      obtain ⟨v1, y1, c1, -, t1⟩ := hf 1 _ rfl
      obtain ⟨z0, q0, -, wf0⟩ := DataW.trod_int Try.underlying3 t0
      obtain ⟨z1, q1, -⟩ := DataW.trod_bool Try.underlying4 t1
      simp only [List.cons.injEq, and_true] at q0 q1
      subst q0 q1
      refine ⟨⟨z0, z1⟩, r64_of wf0, fun j hj => ?_⟩
      rcases (show j = 0 ∨ j = 1 by omega) with rfl | rfl
      · exact c0
      · exact c1)
    subst e1
    exact ⟨l, e2, some a, cap, b, o, rfl, h1, h2, e3⟩
theorem trod_code {n : Nat} {v : Value} {x : DataW H × List MemPlace} (h : DataW.trod enc Try.prog W base sp held n 23 [v] = some x) : ∃ l, CodeAt W v l := by
  rcases open_slice_fields Try.underlying23 Try.underlying70 (by kernel_rfl) (by kernel_rfl) h with ⟨hv, -⟩ | ⟨a, len, cap, m, hv, -, h1, h2, h3, hi⟩
  · simp only [List.cons.injEq, and_true] at hv
    subst hv
    exact ⟨[], by simp, none, 0, 0, 0, rfl, by simp, by decide, rows_nil _ _⟩
  · simp only [List.cons.injEq, and_true] at hv
    subst hv
    obtain ⟨l, e1, e2, b, o, e3⟩ := rows_of (α := LIns) (w := W) (a := a) (len := len) (c := 5) (p := LIns.fits) (f := insCell) (by omega) (fun i hil => by
      obtain ⟨ys, k, -, hf⟩ := hi i (by omega)
      obtain ⟨v0, y0, c0, -, t0⟩ := hf 0 _ rfl
      obtain ⟨v1, y1, c1, -, t1⟩ := hf 1 _ rfl
      obtain ⟨v2, y2, c2, -, t2⟩ := hf 2 _ rfl
      obtain ⟨v3, y3, c3, -, t3⟩ := hf 3 _ rfl
      obtain ⟨v4, y4, c4, -, t4⟩ := hf 4 _ rfl
      obtain ⟨z0, q0, -, wf0⟩ := DataW.trod_int Try.underlying3 t0
      obtain ⟨z1, q1, -, wf1⟩ := DataW.trod_int Try.underlying3 t1
      obtain ⟨z2, q2, -, wf2⟩ := DataW.trod_int Try.underlying3 t2
      obtain ⟨z3, q3, -, wf3⟩ := DataW.trod_int Try.underlying3 t3
      obtain ⟨z4, q4, -, wf4⟩ := DataW.trod_int Try.underlying2 t4
      simp only [List.cons.injEq, and_true] at q0 q1 q2 q3 q4
      subst q0 q1 q2 q3 q4
      refine ⟨⟨z0, z1, z2, z3, z4⟩, ⟨r64_of wf0, r64_of wf1, r64_of wf2, r64_of wf3, r64_of wf4⟩, fun j hj => ?_⟩
      rcases (show j = 0 ∨ j = 1 ∨ j = 2 ∨ j = 3 ∨ j = 4 by omega) with rfl | rfl | rfl | rfl | rfl
      · exact c0
      · exact c1
      · exact c2
      · exact c3
      · exact c4)
    subst e1
    exact ⟨l, e2, some a, cap, b, o, rfl, h1, h2, e3⟩
theorem trod_ints {T E : TypeId} (hT : Try.prog.underlying T = some (.slice E)) (hE : Try.prog.underlying E = some (.int .i64)) (hC : Try.prog.cellsOf E = 1) {n : Nat} {v : Value} {x : DataW H × List MemPlace} (h : DataW.trod enc Try.prog W base sp held n T [v] = some x) : ∃ l, IntsAt W v l := by
  rcases open_slice1 hT hC h with ⟨hv, -⟩ | ⟨a, len, cap, m, k, V, D, Pl, hv, -, h1, h2, h3, -, hi⟩
  · simp only [List.cons.injEq, and_true] at hv
    subst hv
    exact ⟨[], by simp, none, 0, 0, 0, rfl, by simp, by decide, rows_nil _ _⟩
  · simp only [List.cons.injEq, and_true] at hv
    subst hv
    obtain ⟨l, e1, e2, b, o, e3⟩ := rows_of (α := Int) (w := W) (a := a) (len := len) (c := 1) (p := R64) (f := fun x _ => .int .i64 x) (by omega) (fun i hil => by
      obtain ⟨c0, t0⟩ := hi i (by rw [h3]; split <;> omega)
      obtain ⟨z0, q0, -, wf0⟩ := DataW.trod_int hE t0
      simp only [List.cons.injEq, and_true] at q0
      rw [q0] at c0
      refine ⟨z0, r64_of wf0, fun j hj => ?_⟩
      obtain rfl : j = 0 := by omega
      simpa using c0)
    subst e1
    exact ⟨l, e2, some a, cap, b, o, rfl, h1, h2, e3⟩
theorem trod_mem {n : Nat} {v : Value} {x : DataW H × List MemPlace} (h : DataW.trod enc Try.prog W base sp held n 31 [v] = some x) : ∃ m, MemAt W v m := by
  rcases open_slice1 Try.underlying31 (by kernel_rfl) h with ⟨hv, -⟩ | ⟨a, len, cap, m, k, V, D, Pl, hv, -, h1, h2, h3, -, hi⟩
  · simp only [List.cons.injEq, and_true] at hv
    subst hv
    exact ⟨[], none, 0, 0, 0, rfl, by simp, by decide, fun _ => undef, rows_nil _ _, fun i hi => by simp at hi⟩
  · simp only [List.cons.injEq, and_true] at hv
    subst hv
    obtain ⟨l, e1, e2, b, o, e3⟩ := rows_of (α := Value) (w := W) (a := a) (len := len) (c := 1) (p := fun x => ∃ l, IntsAt W x l) (f := fun x _ => x) (by omega) (fun i hil => by
      obtain ⟨c0, t0⟩ := hi i (by rw [h3]; split <;> omega)
      refine ⟨V i, trod_ints Try.underlying71 Try.underlying2 (by kernel_rfl) t0, fun j hj => ?_⟩
      obtain rfl : j = 0 := by omega
      simpa using c0)
    subst e1
    obtain ⟨F, hF⟩ := choose_lt (α := List Int) (n := l.length) (p := fun i x => IntsAt W (l.getD i default) x) (fun i hi => e2 _ (by simp [hi]))
    refine ⟨(List.range l.length).map F, some a, cap, b, o, by simp, by simpa using h1, h2, fun i => l.getD i default, by simpa using e3, fun i hi => ?_⟩
    have hi' : i < l.length := by simpa using hi
    have : ((List.range l.length).map F).getD i default = F i := by simp [hi']
    rw [this]
    exact hF i hi'
set_option maxRecDepth 100000 in
theorem open_prog {b0 : Nat} {r : Reach} {v : Value} {d : DataW H} {p : List MemPlace}
    (hv : Value.okWide Try.prog W r b0 25 v) (h : DataW.Trod enc Try.prog W base sp held 25 v d p) : ∃ q, ProgAt W v q := by
  obtain ⟨c0, c1, y0, y1, m, rfl, rfl, rfl, hy0, hy1⟩ := open_agg2 Try.underlying25 (by kernel_rfl) (by kernel_rfl) hv h
  obtain ⟨l, h0⟩ := trod_regs hy0
  obtain ⟨k, h1⟩ := trod_code hy1
  exact ⟨⟨l, k⟩, c0, c1, rfl, h0, h1⟩
set_option maxRecDepth 100000 in
theorem open_mem {b0 : Nat} {r : Reach} {v : Value} {d : DataW H} {p : List MemPlace}
    (hv : Value.okWide Try.prog W r b0 31 v) (h : DataW.Trod enc Try.prog W base sp held 31 v d p) : ∃ q, MemAt W v q := by
  obtain ⟨fuel, hf⟩ := h
  obtain ⟨a, len, cap, rfl⟩ := okWide_slice Try.underlying31 hv
  exact trod_mem hf
set_option maxRecDepth 100000 in
theorem open_regs {b0 : Nat} {r : Reach} {v : Value} {d : DataW H} {p : List MemPlace}
    (hv : Value.okWide Try.prog W r b0 22 v) (h : DataW.Trod enc Try.prog W base sp held 22 v d p) : ∃ q, RegsAt W v q := by
  obtain ⟨fuel, hf⟩ := h
  obtain ⟨a, len, cap, rfl⟩ := okWide_slice Try.underlying22 hv
  exact trod_regs hf
end
end Go.Proofs.Yteiknefajlocoaa
/- Three facts of the whole program, each by itself: they are dear (each some 45 s and 8 GB), and the same for every statement. -/
namespace Go.Proofs.Yteiknefajlocoaa
open Go
theorem bar_enter : Try.pinned.checked.prog.mayEnter = true := by decide +kernel
theorem bar_lifts : Try.pinned.checked.prog.liftsFinal = false := by decide +kernel
theorem bar_make : (Try.pinned.checked.prog.make == some Make.cut) = true := by decide +kernel
end Go.Proofs.Yteiknefajlocoaa
