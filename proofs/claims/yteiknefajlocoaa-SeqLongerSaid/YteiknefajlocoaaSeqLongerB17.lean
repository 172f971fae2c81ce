/- Laid together from: FormF, Seq6, FormR, FormR2, FormR3. -/
import Derived.Test.YteiknefajlocoaaSeqLongerB16
import Derived.Test.YteiknefajlocoaaSeqLongerB13

/- Walks of Fits, of layout and of the reference. -/
namespace Go.Proofs.Yteiknefajlocoaa
open Go.ChangeShapes Go.WideShapes Go.ChangeAt Go.RowKit
set_option linter.unusedVariables false
set_option linter.unusedSimpArgs false

theorem index_mem {oa : Option Addr} {n b o cap : Nat} (h : 0 < n → oa = some ⟨b, o, none⟩) (W : World) (i : Int) (h0 : 0 ≤ i) (h1 : i < n) :
    (Instr.indexAt 31 (.slice oa n cap) (.int .i64 i)).run Try.prog W = .ok (.pointer (some ⟨b, o + i.toNat, none⟩)) W := by
  obtain rfl := h (by omega)
  have hs : (Try.prog.info? 71).map (·.size) = some 1 := by kernel_rfl
  simp [Instr.indexAt, run_underlying Try.underlying31, asIntOf, h0, h1]
  exact addr_add b o _
def fitOne (p : LProg) (m : List (List Int)) (i : Nat) : Bool := decide ((m.getD i default).length = wordsOf (p.regs.getD i default))
theorem take_range (f : Nat → Bool) (k n : Nat) (hk : k < n) (h : (List.range k).all f = true) : (List.range (k + 1)).all f = f k := by
  rw [List.range_succ, List.all_append, h]; simp
theorem range_false (f : Nat → Bool) (k n : Nat) (hk : k < n) (h : f k = false) : (List.range n).all f = false := by
  rw [List.all_eq_false]; exact ⟨k, List.mem_range.2 hk, by simp [h]⟩
theorem fits_eq (p : LProg) (m : List (List Int)) : fitsOk p m = (regsOk p.regs && decide (m.length = p.regs.length) && (List.range p.regs.length).all (fitOne p m)) := rfl
theorem logs_ok {l : List LReg} (h : regsOk l = true) : ∀ r ∈ l, 0 ≤ r.log ∧ r.log ≤ 6 := by
  intro r hr
  simp only [regsOk, Bool.and_eq_true, List.all_eq_true] at h
  have := h.1 r hr
  simpa [regOk] using this
theorem words64 {r : LReg} (h : r.log ≤ 6) : wordsOf r ≤ 64 := by
  unfold wordsOf
  exact Nat.le_trans (Nat.pow_le_pow_right (by omega) (show r.log.toNat ≤ 6 by omega)) (by decide)
set_option maxHeartbeats 4000000 in
theorem lFits_c (p : LProg) (v : Value) (m : List (List Int)) (vm : Value) (w : World) (hp : ProgAt w v p) (hm : MemAt w vm m) :
    Calls Try.prog 104 #[v, vm] w fun e w' => e = .returned (.bool (fitsOk p m)) ∧ Ext w w' := by
  have hp' := hp
  have hm' := hm
  obtain ⟨v1, v2, rfl, ⟨hb, oa, cap, b, o, rfl, hc1, hc2, hrow⟩, hcode⟩ := hp
  obtain ⟨om, capm, bm, um, rfl, hd1, hd2, vs, hrow2, hvs⟩ := hm
  have HP := Lib.hid hp'
  have hlen := len_bd hc1 hc2
  have hlen2 := len_bd hd1 hd2
  have hix := index_regs (cap := cap) hrow.at_
  have hixm := index_mem (cap := capm) hrow2.at_
  have Hrow := Lib.hid hrow
  have Hrow2 := Lib.hid hrow2
  have Hvs := Lib.hid hvs
  have Hgoal : ∀ r : Bool, Hid (r = fitsOk p m → Ending.returned (.bool r) = .returned (.bool (fitsOk p m))) := fun r => Lib.hid fun h => by rw [h]
  clear hrow hrow2 hc1 hc2 hd1 hd2 hp' hcode hvs hm'
  go_enter Try.func104, Try.ntmps104
  go_wp2_with fail
  obtain ⟨w0, g, hg, hW, hx, c0, c1⟩ := new2 w 25 (.slice oa p.regs.length cap) v2
  rw [hW, hg]
  have X := Lib.hid hx
  clear hW hg hx
  have C := regions_c p _ w0 (HP.out.ext X.out)
  cases hr : regsOk p.regs
  · rw [hr] at C
    have Hr := Lib.hid hr
    clear hr
    (with_reducible refine C.mono ?_)
    rintro e w1 ⟨rfl, h1⟩
    have X := Lib.hid (X.out.trans h1)
    clear h1 C
    go_wp2
    go_ret
    exact ⟨(Hgoal _).out (by simp [fits_eq, Hr.out]), X.out⟩
  rw [hr] at C
  have Hr := Lib.hid hr
  clear hr
  (with_reducible refine C.mono ?_)
  rintro e w1 ⟨rfl, h1⟩
  have X := Lib.hid (X.out.trans h1)
  have c0 := kept2 h1 c0
  have c1 := kept2 h1 c1
  clear h1 C
  by_cases q0 : m.length = p.regs.length
  rotate_left
  · have q0d : ((m.length : Int) != (p.regs.length : Int)) = true := by simp; omega
    have Q := Lib.hid q0
    clear q0
    go_wp2
    go_ret
    exact ⟨(Hgoal _).out (by simp [fits_eq, Q.out]), X.out⟩
  have q0d : ((m.length : Int) != (p.regs.length : Int)) = false := by simp; omega
  have Q := Lib.hid q0
  have hml : m.length ≤ p.regs.length ∧ p.regs.length ≤ m.length := by omega
  clear q0
  go_wp2_with fail
  go_loopw [21] (fun i wr => ∃ j : Nat, j ≤ p.regs.length ∧ i = .int .i64 j ∧ Ext w1 wr ∧ (List.range j).all (fitOne p m) = true) (fun i _ => p.regs.length - (intOf i).toNat)
  case atStart => exact ⟨0, by omega, rfl, Ext.refl _, by simp⟩
  case round =>
    obtain ⟨j, hj, rfl, hE, hall⟩ := hrel
    have c0 := kept2 hE c0
    have c1 := kept2 hE c1
    have X := Lib.hid (X.out.trans hE)
    have HE := Lib.hid hE
    have Hall := Lib.hid hall
    clear hE hall
    by_cases hlt : j < p.regs.length
    · obtain ⟨e0, e1⟩ := (Hrow.out.ext X.out).reg j hlt
      have hjm : j < m.length := by omega
      have f0 := (Hrow2.out.ext X.out).one j hjm
      obtain ⟨-, oj, capj, bj, uj, hvj, hj1, hj2, -⟩ := Hvs.out j hjm
      rw [hvj] at f0
      clear hvj
      have hlj := len_bd hj1 hj2
      have hlog := logs_ok Hr.out _ (getD_mem hlt)
      have Hs := Lib.hid (take_range (fitOne p m) j p.regs.length hlt Hall.out)
      have Hfalse := Lib.hid (range_false (fitOne p m) j p.regs.length hlt)
      have Hone : Hid (fitOne p m j = decide ((m.getD j default).length = wordsOf (p.regs.getD j default))) := Lib.hid rfl
      have Hw := Lib.hid (words64 hlog.2)
      generalize p.regs.getD j default = r at *
      generalize hmj : (m.getD j default).length = lm at *
      clear hmj hj1 hj2
      go_upto_region 6 with fail
      obtain ⟨w2, hw2⟩ : ∃ w2, w2 = wr.alloc (.cells #[.int .i64 r.log, .bool r.secret] 68) := ⟨_, rfl⟩
      have bR : Blk w2 wr.heap.size 68 #[.int .i64 r.log, .bool r.secret] := by rw [hw2]; exact Blk.new wr _ _
      have h2 : Ext wr w2 := by rw [hw2]; exact (Ext.refl wr).alloc _
      rw [← hw2]
      clear hw2
      have r0 : w2.cell? ⟨wr.heap.size, 0, none⟩ = some (.int .i64 r.log) := by rw [bR.cell]; rfl
      have r1 : w2.cell? ⟨wr.heap.size, 1, none⟩ = some (.bool r.secret) := by rw [bR.cell]; rfl
      generalize wr.heap.size = kr at *
      have k0 : ∀ W, Ext w2 W → W.cell? ⟨kr, 0, none⟩ = some (.int .i64 r.log) := fun _ h => h.kept r0
      have k1 : ∀ W, Ext w2 W → W.cell? ⟨kr, 1, none⟩ = some (.bool r.secret) := fun _ h => h.kept r1
      have k2 : ∀ W, Ext w2 W → W.cell? ⟨bm, um + j, none⟩ = some (.slice oj lm capj) := fun _ h => h.kept (h2.kept f0)
      have X := Lib.hid (X.out.trans h2)
      have HE := Lib.hid (HE.out.trans h2)
      have c0 := kept2 h2 c0
      have c1 := kept2 h2 c1
      clear h2 e0 e1 f0 r0 r1 bR
      have hjm' : (j : Int) < (m.length : Int) := by omega
      refine region_calm 8 (by kernel_rfl) (by kernel_rfl) ?_
      simp only [List.take_succ_cons, List.take_zero, List.drop_succ_cons, List.drop_zero]
      repeat (first | (refine calm_fresh ?_ ?_ (fun wc hE => ?_) ?_; (decide); rfl; (focus (go_simp; done)); go_simp) | (refine calm_value ?_ ?_ ?_; (decide); (first | rfl | (focus (go_simp; done))); apply Exists.intro; refine ⟨fun wc hE => ?_, ?_⟩; (go_simp; exact rfl); go_simp) | (refine calm_call ?_ ?_ ?_; (decide); (first | rfl | (focus (go_simp; done))); apply Exists.intro; refine ⟨fun wc hE => ?_, ?_⟩; (go_simp; (first | (with_reducible exact calm_enter (words_c r hlog.1 hlog.2 _)))); go_simp) | (refine calm_skip ?_ ?_ ?_; (decide); (focus (go_simp; done)); go_simp))
      refine calm_nil ?_
      intro wx hx
      have HX := Lib.hid (HE.out.trans hx)
      have X := Lib.hid (X.out.trans hx)
      clear hx k0 k1 k2
      by_cases hq : lm = wordsOf r
      · have hqd : ((lm : Int) != ((wordsOf r : Nat) : Int)) = false := by simp; omega
        have HQ := Lib.hid hq
        clear hq
        go_wp2
        go_roundw
        case rel => exact ⟨j + 1, by omega, by go_num, HX.out, by rw [Hs.out, Hone.out]; simp [HQ.out]⟩
        case measure => first | (simp [intOf]; done) | (simp [intOf]; omega)
      · have hqd : ((lm : Int) != ((wordsOf r : Nat) : Int)) = true := by simp; omega
        have HQ := Lib.hid hq
        clear hq
        go_wp2
        go_ret
        exact ⟨(Hgoal _).out (by rw [fits_eq, Hfalse.out (by rw [Hone.out]; simp [HQ.out]), Bool.and_false]), X.out⟩
    · have hje : j = p.regs.length := by omega
      subst hje
      have hjm : m.length ≤ p.regs.length := by omega
      go_wp2
      go_ret
      exact ⟨(Hgoal _).out (by simp [fits_eq, Hr.out, Q.out, Hall.out]), X.out⟩
set_option maxHeartbeats 4000000 in
theorem rFits_c (p : LProg) (v : Value) (m : List (List Int)) (vm : Value) (w : World) (hp : ProgAt w v p) (hm : MemAt w vm m) :
    Calls Try.prog 27 #[v, vm] w fun e w' => e = .returned (.bool (fitsOk p m)) ∧ Ext w w' := by
  have hp' := hp
  have hm' := hm
  obtain ⟨v1, v2, rfl, ⟨hb, oa, cap, b, o, rfl, hc1, hc2, hrow⟩, hcode⟩ := hp
  obtain ⟨om, capm, bm, um, rfl, hd1, hd2, vs, hrow2, hvs⟩ := hm
  have HP := Lib.hid hp'
  have hlen := len_bd hc1 hc2
  have hlen2 := len_bd hd1 hd2
  have hix := index_regs (cap := cap) hrow.at_
  have hixm := index_mem (cap := capm) hrow2.at_
  have Hrow := Lib.hid hrow
  have Hrow2 := Lib.hid hrow2
  have Hvs := Lib.hid hvs
  have Hgoal : ∀ r : Bool, Hid (r = fitsOk p m → Ending.returned (.bool r) = .returned (.bool (fitsOk p m))) := fun r => Lib.hid fun h => by rw [h]
  clear hrow hrow2 hc1 hc2 hd1 hd2 hp' hcode hvs hm'
  go_enter Try.func27, Try.ntmps27
  go_wp2_with fail
  obtain ⟨w0, g, hg, hW, hx, c0, c1⟩ := new2 w 25 (.slice oa p.regs.length cap) v2
  rw [hW, hg]
  have X := Lib.hid hx
  clear hW hg hx
  have C := rRegions_c p _ w0 (HP.out.ext X.out)
  cases hr : regsOk p.regs
  · rw [hr] at C
    have Hr := Lib.hid hr
    clear hr
    (with_reducible refine C.mono ?_)
    rintro e w1 ⟨rfl, h1⟩
    have X := Lib.hid (X.out.trans h1)
    clear h1 C
    go_wp2
    go_ret
    exact ⟨(Hgoal _).out (by simp [fits_eq, Hr.out]), X.out⟩
  rw [hr] at C
  have Hr := Lib.hid hr
  clear hr
  (with_reducible refine C.mono ?_)
  rintro e w1 ⟨rfl, h1⟩
  have X := Lib.hid (X.out.trans h1)
  have c0 := kept2 h1 c0
  have c1 := kept2 h1 c1
  clear h1 C
  by_cases q0 : m.length = p.regs.length
  rotate_left
  · have q0d : ((m.length : Int) != (p.regs.length : Int)) = true := by simp; omega
    have Q := Lib.hid q0
    clear q0
    go_wp2
    go_ret
    exact ⟨(Hgoal _).out (by simp [fits_eq, Q.out]), X.out⟩
  have q0d : ((m.length : Int) != (p.regs.length : Int)) = false := by simp; omega
  have Q := Lib.hid q0
  have hml : m.length ≤ p.regs.length ∧ p.regs.length ≤ m.length := by omega
  clear q0
  go_wp2_with fail
  go_loopw [5] (fun i wr => ∃ j : Nat, j ≤ p.regs.length ∧ i = .int .i64 j ∧ Ext w1 wr ∧ (List.range j).all (fitOne p m) = true) (fun i _ => p.regs.length - (intOf i).toNat)
  case atStart => exact ⟨0, by omega, rfl, Ext.refl _, by simp⟩
  case round =>
    obtain ⟨j, hj, rfl, hE, hall⟩ := hrel
    have c0 := kept2 hE c0
    have c1 := kept2 hE c1
    have X := Lib.hid (X.out.trans hE)
    have HE := Lib.hid hE
    have Hall := Lib.hid hall
    clear hE hall
    by_cases hlt : j < p.regs.length
    · obtain ⟨e0, e1⟩ := (Hrow.out.ext X.out).reg j hlt
      have hjm : j < m.length := by omega
      have f0 := (Hrow2.out.ext X.out).one j hjm
      obtain ⟨-, oj, capj, bj, uj, hvj, hj1, hj2, -⟩ := Hvs.out j hjm
      rw [hvj] at f0
      clear hvj
      have hlj := len_bd hj1 hj2
      have hlog := logs_ok Hr.out _ (getD_mem hlt)
      have Hs := Lib.hid (take_range (fitOne p m) j p.regs.length hlt Hall.out)
      have Hfalse := Lib.hid (range_false (fitOne p m) j p.regs.length hlt)
      have Hone : Hid (fitOne p m j = decide ((m.getD j default).length = wordsOf (p.regs.getD j default))) := Lib.hid rfl
      have Hw := Lib.hid (words64 hlog.2)
      generalize p.regs.getD j default = r at *
      generalize hmj : (m.getD j default).length = lm at *
      clear hmj hj1 hj2
      have hjm' : (j : Int) < (m.length : Int) := by omega
      have C := rWords_c r hlog.1 hlog.2 wr
      go_wp2_with fail
      (with_reducible refine C.mono ?_)
      clear C
      rintro e' w2 ⟨rfl, h2⟩
      have f0 := h2.kept f0
      have X := Lib.hid (X.out.trans h2)
      have HE := Lib.hid (HE.out.trans h2)
      clear h2 e0 e1
      by_cases hq : lm = wordsOf r
      · have hqd : ((lm : Int) != ((wordsOf r : Nat) : Int)) = false := by simp; omega
        have HQ := Lib.hid hq
        clear hq
        go_wp2
        go_roundw
        case rel => exact ⟨j + 1, by omega, by go_num, HE.out, by rw [Hs.out, Hone.out]; simp [HQ.out]⟩
        case measure => first | (simp [intOf]; done) | (simp [intOf]; omega)
      · have hqd : ((lm : Int) != ((wordsOf r : Nat) : Int)) = true := by simp; omega
        have HQ := Lib.hid hq
        clear hq
        go_wp2
        go_ret
        exact ⟨(Hgoal _).out (by rw [fits_eq, Hfalse.out (by rw [Hone.out]; simp [HQ.out]), Bool.and_false]), X.out⟩
    · have hje : j = p.regs.length := by omega
      subst hje
      have hjm : m.length ≤ p.regs.length := by omega
      go_wp2
      go_ret
      exact ⟨(Hgoal _).out (by simp [fits_eq, Hr.out, Q.out, Hall.out]), X.out⟩
end Go.Proofs.Yteiknefajlocoaa
/- Walks of the program's Done and May. -/
namespace Go.Proofs.Yteiknefajlocoaa
open Go.ChangeShapes Go.WideShapes Go.ChangeAt Go.RowKit
set_option linter.unusedVariables false
set_option linter.unusedSimpArgs false

theorem MSt.mem_ {w : World} {B g : Nat} {vR vC vM vB vS vW : Value} {bases : List Int} {M : Mach} (h : MSt w B g vR vC vM vB vS vW bases M) (u : Value) : MSt (w.setCell ⟨g, 6, none⟩ u) B g vR vC u vB vS vW bases M :=
  ⟨by rw [← mach_set_mem (u := u)]; exact h.box.set_ 6 u, own_far h.sn h.gs u, own_far h.ws h.gw u, own_far h.bs h.gb u, h.len, h.hg⟩
/-- what a run shows, in rows of the call's own from block B on -/
def ShownOwn (w : World) (B : Nat) (v : Value) (fin value : Int) (steps : Nat) (seen : List LSee) (mem : List (List Int)) : Prop :=
  ∃ vs vm U, v = .agg #[.int .i64 fin, .int .i64 value, .int .i64 steps, vs, vm] ∧ w.ownsRow B 98 3 vs seen.length (seen.flatMap seeCells) ∧ MemOwn w B U 71 2 vm mem
theorem ShownOwn.at_ {w : World} {B : Nat} {v : Value} {fin value : Int} {steps : Nat} {seen : List LSee} {mem : List (List Int)} (h : ShownOwn w B v fin value steps seen mem) (h64 : ∀ l ∈ mem, ∀ x ∈ l, R64 x) : ShownAt w v fin value steps seen mem := by
  obtain ⟨vs, vm, U, rfl, h1, h2⟩ := h
  exact ⟨vs, vm, rfl, seen_own h1, h2.mem h64⟩
theorem ShownOwn.far {w : World} {B : Nat} {v : Value} {fin value : Int} {steps : Nat} {seen : List LSee} {mem : List (List Int)} (h : ShownOwn w B v fin value steps seen mem) {p : Addr} (hp : p.block < B) (u : Value) : ShownOwn (w.setCell p u) B v fin value steps seen mem := by
  obtain ⟨vs, vm, U, rfl, h1, h2⟩ := h
  exact ⟨vs, vm, U, rfl, own_far h1 (fun e => by have := own_base h1 _ e.symm; omega) u, h2.far hp u⟩
theorem own_mono {w : World} {b b' : Nat} {e : TypeId} {s n : Nat} {v : Value} {xs : List Value} (h : w.ownsRow b e s v n xs) (hb : b' ≤ b) : w.ownsRow b' e s v n xs := by
  refine ⟨h.1, ?_⟩
  rcases h.2 with h | ⟨g, cap, cur, rfl, h1, h2, h3⟩
  · exact .inl h
  · exact .inr ⟨g, cap, cur, rfl, by omega, h2, h3⟩
theorem MemOwn.mono {w : World} {B B' U : Nat} {T E : TypeId} {v : Value} {m : List (List Int)} (h : MemOwn w B U T E v m) (hb : B' ≤ B) : MemOwn w B' U T E v m := by
  obtain ⟨vs, h1, h2, h3, h4, h5⟩ := h
  exact ⟨vs, h1, own_mono h2 hb, h3, fun i hi => ⟨own_mono (h4 i hi).1 hb, (h4 i hi).2⟩, h5⟩
def DonePost (p : LProg) (M : Mach) (wB : World) (e : Ending) (w' : World) : Prop :=
  ∃ u, e = .returned u ∧ ShownOwn w' wB.heap.size u M.fin M.value M.steps M.seen (splitW p M.words) ∧ Ext wB w'
theorem take_snoc {α : Type} [Inhabited α] {l : List α} {j : Nat} (h : j < l.length) : l.take (j + 1) = l.take j ++ [l.getD j default] := by
  rw [List.take_succ_eq_append_getElem h]; simp [h]
/-- what a run has shown, put into the result -/
theorem done_end {p : LProg} {M : Mach} {wB w1 : World} {D g r : Nat} {vR vC vM vB vS vW x0 x1 x2 x3 x4 : Value} (P : MSt w1 wB.heap.size g vR vC vM vB vS vW (basesOf p) M) (hM : MemOwn w1 D w1.heap.size 71 2 vM (splitW p M.words)) (hBD : wB.heap.size ≤ D)
    (hR : Blk w1 r 36 #[x0, x1, x2, x3, x4]) (hrB : wB.heap.size ≤ r) (hrD : r < D) (hx : Ext wB w1) {w2 : World}
    (hw : w2 = ((((w1.setCell ⟨r, 0, none⟩ (.int .i64 M.fin)).setCell ⟨r, 1, none⟩ (.int .i64 M.value)).setCell ⟨r, 2, none⟩ (.int .i64 M.steps)).setCell ⟨r, 3, none⟩ vS).setCell ⟨r, 4, none⟩ vM) :
    Blk w2 r 36 #[.int .i64 M.fin, .int .i64 M.value, .int .i64 M.steps, vS, vM] ∧ ShownOwn w2 wB.heap.size (.agg #[.int .i64 M.fin, .int .i64 M.value, .int .i64 M.steps, vS, vM]) M.fin M.value M.steps M.seen (splitW p M.words) ∧ Ext wB w2 := by
  subst hw
  have hne := own_ne P.sn hR (by decide)
  refine ⟨((((hR.set_ 0 _).set_ 1 _).set_ 2 _).set_ 3 _).set_ 4 _, ⟨vS, vM, w1.heap.size, rfl, own_far (own_far (own_far (own_far (own_far P.sn hne _) hne _) hne _) hne _) hne _, ?_⟩, ?_⟩
  · exact (((((hM.far (p := ⟨r, 0, none⟩) hrD _).far (p := ⟨r, 1, none⟩) hrD _).far (p := ⟨r, 2, none⟩) hrD _).far (p := ⟨r, 3, none⟩) hrD _).far (p := ⟨r, 4, none⟩) hrD _).mono hBD
  · exact ((((hx.setCell hrB _).setCell hrB _).setCell hrB _).setCell hrB _).setCell hrB _
theorem src_part {w w2 : World} {k : Nat} {ws l : List Int} {base L : Nat} (h : ∀ j x, j < ws.length → (ws.map (Value.int .i64))[j]? = some x → w.cell? ⟨k, j, none⟩ = some x ∧ w.frozen? ⟨k, j, none⟩ = false) (hl : l = (ws.drop base).take L) (hL : l.length = L) (hb : base + L ≤ ws.length) (hx : Ext w w2) :
    Src w2 1 (some ⟨k, base, none⟩) L (l.map (Value.int .i64)) := by
  refine ⟨by rw [List.length_map, hL, Nat.mul_one], (fun h => by cases h), fun ad ha q u hu => ?_, fun u hu => ?_⟩
  · obtain rfl := Option.some.inj ha
    rw [Addr.add_lit]
    have hq : q < L := by
      have := (List.getElem?_eq_some_iff.1 hu).1
      rw [List.length_map, hL] at this
      exact this
    refine hx.kept (h (base + q) u (by omega) ?_).1
    rw [← hu, hl, List.getElem?_map, List.getElem?_map, List.getElem?_take_of_lt hq, List.getElem?_drop]
  · simp only [List.mem_map] at hu
    obtain ⟨y, -, rfl⟩ := hu
    rfl
theorem MSt.grown_mem {w w' : World} {B D g n : Nat} {vR vC vM vB vS vW u : Value} {bases : List Int} {M : Mach} {xs : List Value} (h : MSt w B g vR vC vM vB vS vW bases M) (hu : w.ownsRow D 71 1 u n xs) (hg : w.grownBy w' u.ownBlock) : MSt w' B g vR vC vM vB vS vW bases M :=
  ⟨h.box.grown hg (own_ne hu h.box (by decide)), own_grown h.sn hg (fun k hk he => own_ne2 hu h.sn (by decide) k hk he), own_grown h.ws hg (fun k hk he => own_ne2 hu h.ws (by decide) k hk he), own_grown h.bs hg (fun k hk he => own_ne2 hu h.bs (by decide) k hk he), h.len, h.hg⟩
theorem own_cap {w : World} {B k n cap : Nat} {e : TypeId} {s : Nat} {xs : List Value} (h : w.ownsRow B e s (.slice (some ⟨k, 0, none⟩) n cap) n xs) : n ≤ cap ∧ cap ≤ maxLen := by
  rcases h.2 with ⟨h0, -⟩ | ⟨k', cap', cur, hh, a1, a2, a3, a4, -⟩
  · cases h0
  · simp only [Value.slice.injEq, Option.some.injEq, Addr.mk.injEq, and_true, true_and] at hh
    obtain ⟨rfl, rfl⟩ := hh
    exact ⟨a3, a4⟩
set_option maxRecDepth 100000 in
set_option maxHeartbeats 4000000 in
theorem done_c (p : LProg) {wB : World} {g : Nat} {vR vC vB vS vW : Value} {M : Mach} (hr : regsOk p.regs = true) (hok : MOk p M) (w : World) (hp : ProgAt wB (.agg #[vR, vC]) p) (hbx : Ext wB w) (h : MSt w wB.heap.size g vR vC (.slice none 0 0) vB vS vW (basesOf p) M) :
    Calls Try.prog 72 #[.pointer (some ⟨g, 0, none⟩)] w (DonePost p M wB) := by
  have hlen := regsOk_len hr
  have htt := total_le hr
  have hwl := hok.wlen
  have H64 := Lib.hid hok.w64
  have Hr := Lib.hid hr
  have H := Lib.hid h
  have HX := Lib.hid hbx
  have hgl := h.box.lt
  have Hgl := Lib.hid hgl
  have HR : Hid (∀ W, Ext wB W → RegsAt W vR p.regs) := Lib.hid (by
    obtain ⟨v1, v2, hv, hR, -⟩ := hp
    simp only [Value.agg.injEq, Array.mk.injEq, List.cons.injEq, and_true] at hv
    obtain ⟨rfl, -⟩ := hv
    exact fun W hW => hR.ext hW)
  obtain ⟨oa, cap, rfl⟩ : ∃ a c, vR = .slice a p.regs.length c := by
    obtain ⟨-, oa, cap, b, o, hv, -⟩ := HR.out wB (Ext.refl _)
    exact ⟨oa, cap, hv⟩
  obtain ⟨j0, hj0, hy0, hy1, hy2⟩ := info_parts infoRow
  obtain ⟨ob, obc, rfl⟩ := own_slice h.bs
  have hbl := bases_len p
  obtain ⟨-, -, -, -, -, -, -, -, -, g19⟩ := h.cells
  simp only [hbl] at g19
  clear hok hr h hbx hp
  go_enter Try.func72, Try.ntmps72
  go_wp2_with fail
  obtain ⟨W0, r, hrr, hW, hx, bR⟩ := block1 w #[.int .i64 0, .int .i64 0, .int .i64 0, .slice none 0 0, .slice none 0 0] 36
  rw [hW, hrr]
  have hWs : W0.heap.size = r + 1 := by rw [← hW, ← hrr]; simp
  have hgr : g ≠ r := by omega
  have Hgr : Hid (g < r) := Lib.hid (by omega)
  have hBr : wB.heap.size ≤ r := by have := HX.out.size; omega
  have P0 := H.out.ext hx
  have X0 := HX.out.trans hx
  have BR := Lib.hid bR
  have HBr := Lib.hid hBr
  clear hW hrr hx bR g19 hgl
  have HW0 := Lib.hid hWs
  go_loopw [11] (fun i wr => ∃ (j : Nat) (vM : Value), j ≤ p.regs.length ∧ i = .int .i64 j ∧ MSt wr wB.heap.size g (.slice oa p.regs.length cap) vC vM (.slice ob (basesOf p).length obc) vS vW (basesOf p) M ∧ MemOwn wr W0.heap.size wr.heap.size 71 2 vM ((splitW p M.words).take j) ∧ Ext wB wr ∧ Blk wr r 36 #[.int .i64 0, .int .i64 0, .int .i64 0, .slice none 0 0, .slice none 0 0] ∧ W0.heap.size ≤ wr.heap.size) (fun i _ => p.regs.length - (intOf i).toNat)
  case atStart => exact ⟨0, _, by omega, rfl, P0, by simpa using mem_nil _ _ _ _ _, X0, BR.out, Nat.le_refl _⟩
  case round =>
    obtain ⟨j, vM, hj, rfl, P, hMo, hE, bR, hWr⟩ := hrel
    have X := Lib.hid hE
    have PP := Lib.hid P
    have bR := Lib.hid bR
    have hMo := Lib.hid hMo
    have hgl := P.box.lt
    by_cases hlt : j < p.regs.length
    · have hR := HR.out wr hE
      obtain ⟨-, oa', cap', b, o, hv, hc1, hc2, hrow⟩ := hR
      simp only [Value.slice.injEq, true_and] at hv
      obtain ⟨rfl, rfl⟩ := hv
      have hix := index_regs (cap := cap) hrow.at_
      obtain ⟨e0, e1⟩ := hrow.reg j hlt
      have hlog := regsOk_log Hr.out _ (getD_mem hlt)
      have hbe := base_end p j hlt
      have hw6 : wordsOf (p.regs.getD j default) ≤ 64 := words_le _ hlog.2
      have hw1 : 0 < wordsOf (p.regs.getD j default) := words_pos _
      have Hrl := Lib.hid (split_row (ws := M.words) hwl hlt)
      have Hrg := Lib.hid (split_get (p := p) M.words hlt)
      have Htk := Lib.hid (take_snoc (l := splitW p M.words) (j := j) (by rw [split_len]; exact hlt))
      have Htl : Hid (((splitW p M.words).take j).length = j) := Lib.hid (by rw [List.length_take, split_len]; omega)
      obtain ⟨g0, -, -, -, -, -, g6, g17, -, g19⟩ := P.cells
      obtain ⟨kb, capb, hvb, hkb, hbs⟩ := own_at P.bs (show 0 < (basesOf p).length by rw [bases_len]; omega)
      obtain ⟨b19, -⟩ := hbs j _ (by rw [bases_len]; omega) (bases_get p hlt)
      simp only [Value.slice.injEq, true_and] at hvb
      obtain ⟨rfl, rfl⟩ := hvb
      have hixb := index_int0 kb p.regs.length obc
      generalize p.regs.getD j default = rg0 at *
      clear hE P hrow hc1 hc2 hbs
      go_wp2_with fail
      (with_reducible refine (words_c rg0 hlog.1 hlog.2 wr).mono ?_)
      rintro e w1 ⟨rfl, hx⟩
      generalize wordsOf rg0 = L at *
      have X := Lib.hid (X.out.trans hx)
      have PP := Lib.hid (PP.out.ext hx)
      have bR := Lib.hid (bR.out.ext hx)
      have hMo := Lib.hid (hMo.out.below (Below.mono hx (Nat.le_refl _)))
      have g6 := kept2 hx g6
      have g17 := kept2 hx g17
      have hWr1 := hx.size
      obtain ⟨kw, capw, hvw, hkw, hws⟩ := own_at PP.out.ws (show 0 < M.words.length by omega)
      subst hvw
      have hcapw := own_cap PP.out.ws
      obtain ⟨vs, q1, q2, q3, q4, q5⟩ := hMo.out
      rw [Htl.out] at q2
      obtain ⟨om, omc, rfl⟩ := own_slice q2
      have hBW : wB.heap.size ≤ W0.heap.size := by omega
      have hwr : IntKind.i64.wrap ((baseOf p j : Int) + (L : Int)) = (baseOf p j : Int) + (L : Int) := Go.IntWalk.i64_in _ (by omega)
      have Hws := Lib.hid hws
      have hsA : 0 ≤ (baseOf p j : Int) + (L : Int) := by omega
      have hsB : (baseOf p j : Int) + (L : Int) ≤ (capw : Int) := by have := hcapw.1; omega
      have hsC : ((baseOf p j : Int) + (L : Int)).toNat = baseOf p j + L := by omega
      have hsD : ¬ capw = baseOf p j := by have := hcapw.1; omega
      clear hx e0 e1 g0 g19 b19 hws
      go_upto_region 5 with fail
      have k6 : ∀ W, Ext w1 W → W.cell? ⟨g, 6, none⟩ = some (.slice om j omc) := fun _ h => h.kept g6.1
      have k17 : ∀ W, Ext w1 W → W.cell? ⟨g, 17, none⟩ = some (.slice (some ⟨kw, 0, none⟩) M.words.length capw) := fun _ h => h.kept g17.1
      refine region_float [16, 17, 18, 19, 20, 21, 22] 2 (by kernel_rfl) (by kernel_rfl) ?_
      repeat (first | (refine cw_heavy ?_ ?_; (decide)) | (refine cw_value ?_ ?_ ?_; (decide); (first | rfl | (focus (go_simp; done))); apply Exists.intro; refine ⟨fun wc hE => ?_, ?_⟩; (go_simp; exact rfl); go_simp) | (refine cw_skip ?_ ?_ ?_; (decide); (focus (go_simp; done)); go_simp))
      refine cw_nil ?_
      intro w2 hx
      clear k6 k17
      have X2 := X.out.trans hx
      have hsrc := src_part Hws.out Hrg.out Hrl.out (show baseOf p j + L ≤ M.words.length by omega) hx
      have Hsrc := Lib.hid hsrc
      refine wpF_soft rfl ?_
      go_wp2_with fail
      (with_reducible refine (clone_c Hsrc.out (by omega)).mono ?_)
      rintro e w3 ⟨v', rfl, hv', hx3⟩
      obtain ⟨o3, c3, rfl⟩ := own_slice hv'
      have hx13 := hx.trans hx3
      have hat1 : ∀ b, (Value.slice o3 L c3).ownBlock = some b → w1.heap.size ≤ b := fun b hb => Nat.le_trans hx.size (own_base hv' b hb)
      have hv' := own_mono hv' (show W0.heap.size ≤ w2.heap.size by have := hx.size; omega)
      go_wp2
      try refine ⟨hx13, ?_⟩
      refine wpF_soft rfl ?_
      go_wp2
      try refine ⟨hx13.alloc _, ?_⟩
      refine wpF_hard (heavies_cons rfl (heavies_cons rfl (heavies_cons rfl (heavies_cons rfl (heavies_cons rfl (heavies_nil)))))) ?_
      refine wpList_append_src _ rfl _ _ 31 rfl W0.heap.size 71 j0 _ 1 24 Try.underlying31 hj0 hy0 hy1 hy2 rfl (by decide) _ _ _ rfl (own_alloc (own_ext q2 hx13)) (some ⟨w3.heap.size, 0, none⟩) 1 1 [.slice o3 L c3] rfl ?c1 ?c3 ?c4 ?c5 ?_
      case c1 => exact src_new (size := 1) (Blk.new w3 71 #[.slice o3 L c3]) rfl (by simp [Value.oneCell'])
      case c3 => unfold maxLen; omega
      case c4 => omega
      case c5 => have := hx13.size; simp; omega
      intro v2' w4 hown hgrow hat
      clear hat
      obtain ⟨o5, c5, rfl⟩ := own_slice hown
      obtain ⟨v2, hv2⟩ : ∃ v2, v2 = Value.slice o5 (j + 1) c5 := ⟨_, rfl⟩
      rw [← hv2] at hown
      have hgrow : (w3.alloc (.cells #[.slice o3 L c3] 71)).grownBy w4 (Value.slice om j omc).ownBlock := hgrow
      have hxa := hx13.alloc (.cells #[.slice o3 L c3] 71)
      have q2a : (w3.alloc (.cells #[.slice o3 L c3] 71)).ownsRow W0.heap.size 71 1 (.slice om j omc) j vs := own_ext q2 hxa
      have HM4 : Hid (MemOwn w4 W0.heap.size w4.heap.size 71 2 v2 ((splitW p M.words).take (j + 1))) := Lib.hid (by
        rw [Htk.out]
        exact mem_push (wr := w1) (w1 := w3) (out := .slice om j omc) (by decide) q1 (by rw [Htl.out]; exact q2) (fun i hi => (q4 i hi).1) q5 hxa (own_alloc (by rw [Hrl.out]; exact hv')) hat1 (by rw [Htl.out]; exact hown) hgrow)
      have P4 := (PP.out.ext hxa).grown_mem q2a hgrow
      have bR4 := (bR.out.ext hxa).grown hgrow (own_ne q2a (bR.out.ext hxa) (by decide))
      have X4 := (X.out.trans hxa).grown hgrow (fun k hk => Nat.le_trans hBW (own_base q2a k hk))
      have hWr4 : W0.heap.size ≤ w4.heap.size := by have := hgrow.size; have := hxa.size; omega
      obtain ⟨-, -, -, -, -, -, g6, -, -, -⟩ := P4.cells
      have hg4 := P4.box.lt
      have P5 := Lib.hid (P4.mem_ v2)
      have bR5 := Lib.hid (bR4.far (p := ⟨g, 6, none⟩) hgr.symm v2)
      have X5 := Lib.hid (X4.setCell (p := ⟨g, 6, none⟩) PP.out.hg v2)
      have HM5 : Hid (MemOwn (w4.setCell ⟨g, 6, none⟩ v2) W0.heap.size (w4.setCell ⟨g, 6, none⟩ v2).heap.size 71 2 v2 ((splitW p M.words).take (j + 1))) := Lib.hid (by
        rw [setCell_size]
        exact HM4.out.far (p := ⟨g, 6, none⟩) (by have := Hgr.out; have := HW0.out; simp only; omega) v2)
      have hWr5 : W0.heap.size ≤ (w4.setCell ⟨g, 6, none⟩ v2).heap.size := by rw [setCell_size]; exact hWr4
      have HWr5 := Lib.hid hWr5
      subst hv2
      clear hown hgrow hxa q2a P4 bR4 X4 hWr4 hWr5 hx hx3 hx13 hv' hat1
      go_wp2
      go_roundw
      case rel => exact ⟨j + 1, _, by omega, by go_num, P5.out, HM5.out, X5.out, bR5.out, HWr5.out⟩
      case measure => first | (simp [intOf]; done) | (simp [intOf]; omega)
    · have hje : j = p.regs.length := by omega
      subst hje
      have hlt2 : decide ((p.regs.length : Int) < (p.regs.length : Int)) = false := by simp
      have hMo : Hid (MemOwn wr W0.heap.size wr.heap.size 71 2 vM (splitW p M.words)) := Lib.hid (by
        have := hMo.out
        rw [List.take_of_length_le (by rw [split_len]; omega)] at this
        exact this)
      obtain ⟨-, -, g2, g3, g4, g5, g6, -, -, -⟩ := P.cells
      have r0 : wr.cell? ⟨r, 0, none⟩ = some (.int .i64 0) ∧ wr.frozen? ⟨r, 0, none⟩ = false := ⟨by rw [bR.out.cell]; rfl, bR.out.frozen _⟩
      have r1 : wr.cell? ⟨r, 1, none⟩ = some (.int .i64 0) ∧ wr.frozen? ⟨r, 1, none⟩ = false := ⟨by rw [bR.out.cell]; rfl, bR.out.frozen _⟩
      have r2 : wr.cell? ⟨r, 2, none⟩ = some (.int .i64 0) ∧ wr.frozen? ⟨r, 2, none⟩ = false := ⟨by rw [bR.out.cell]; rfl, bR.out.frozen _⟩
      have r3 : wr.cell? ⟨r, 3, none⟩ = some (.slice none 0 0) ∧ wr.frozen? ⟨r, 3, none⟩ = false := ⟨by rw [bR.out.cell]; rfl, bR.out.frozen _⟩
      have r4 : wr.cell? ⟨r, 4, none⟩ = some (.slice none 0 0) ∧ wr.frozen? ⟨r, 4, none⟩ = false := ⟨by rw [bR.out.cell]; rfl, bR.out.frozen _⟩
      have hrl := bR.out.lt
      obtain ⟨ov, ovc, rfl⟩ := own_slice P.sn
      obtain ⟨om, omc, rfl⟩ : ∃ a c, vM = .slice a (splitW p M.words).length c := by
        obtain ⟨vs, h1, h2, -⟩ := hMo.out
        exact own_slice h2
      clear P hE hlt
      go_wp2
      have hE := done_end (PP.out) hMo.out (show wB.heap.size ≤ W0.heap.size by have := HW0.out; have := HBr.out; omega) bR.out HBr.out (show r < W0.heap.size by have := HW0.out; omega) X.out rfl
      have HE := Lib.hid hE
      clear hE
      exact bodyPost_ret (results_blk (HE.out.1) rfl _ rfl Try.underlying36 rfl (by kernel_rfl)) rfl ⟨_, rfl, HE.out.2⟩
end Go.Proofs.Yteiknefajlocoaa
/- Walks of the reference's shape and ins (chapter 2). -/
namespace Go.Proofs.Yteiknefajlocoaa
open Go.ChangeShapes Go.WideShapes Go.ChangeAt Go.RowKit
set_option linter.unusedVariables false
set_option linter.unusedSimpArgs false

theorem blk_add {w w' : World} {g : Nat} {t : TypeId} {cs : Array Value} (h : Blk w g t cs) (hx : Ext w w') : Blk w' g t cs := h.ext hx

theorem shape_1 (w : World) : Calls Try.prog 129 #[.int .i64 1] w fun e w' => e = .returned (.tuple #[.slice (some ⟨w.heap.size, 0, none⟩) 3 3, .bool true, .bool true]) ∧ w' = w.alloc (.cells #[.int .i64 1, .int .i64 0, .int .i64 0] 3) := by
  go_enter Try.func129, Try.ntmps129
  go_wp2
  go_ret3
  exact ⟨rfl, rfl⟩
theorem shape_2 (w : World) : Calls Try.prog 129 #[.int .i64 2] w fun e w' => e = .returned (.tuple #[.slice (some ⟨w.heap.size, 0, none⟩) 3 3, .bool false, .bool true]) ∧ w' = w.alloc (.cells #[.int .i64 1, .int .i64 1, .int .i64 0] 3) := by
  go_enter Try.func129, Try.ntmps129
  go_wp2
  go_ret3
  exact ⟨rfl, rfl⟩
theorem shape_3 (w : World) : Calls Try.prog 129 #[.int .i64 3] w fun e w' => e = .returned (.tuple #[.slice (some ⟨w.heap.size, 0, none⟩) 3 3, .bool true, .bool true]) ∧ w' = w.alloc (.cells #[.int .i64 1, .int .i64 1, .int .i64 2] 3) := by
  go_enter Try.func129, Try.ntmps129
  go_wp2
  go_ret3
  exact ⟨rfl, rfl⟩
theorem shape_4 (w : World) : Calls Try.prog 129 #[.int .i64 4] w fun e w' => e = .returned (.tuple #[.slice (some ⟨w.heap.size, 0, none⟩) 3 3, .bool true, .bool true]) ∧ w' = w.alloc (.cells #[.int .i64 1, .int .i64 1, .int .i64 2] 3) := by
  go_enter Try.func129, Try.ntmps129
  go_wp2
  go_ret3
  exact ⟨rfl, rfl⟩
theorem shape_5 (w : World) : Calls Try.prog 129 #[.int .i64 5] w fun e w' => e = .returned (.tuple #[.slice (some ⟨w.heap.size, 0, none⟩) 3 3, .bool true, .bool true]) ∧ w' = w.alloc (.cells #[.int .i64 1, .int .i64 0, .int .i64 2] 3) := by
  go_enter Try.func129, Try.ntmps129
  go_wp2
  go_ret3
  exact ⟨rfl, rfl⟩
theorem shape_6 (w : World) : Calls Try.prog 129 #[.int .i64 6] w fun e w' => e = .returned (.tuple #[.slice (some ⟨w.heap.size, 0, none⟩) 3 3, .bool true, .bool true]) ∧ w' = w.alloc (.cells #[.int .i64 1, .int .i64 0, .int .i64 2] 3) := by
  go_enter Try.func129, Try.ntmps129
  go_wp2
  go_ret3
  exact ⟨rfl, rfl⟩
theorem shape_7 (w : World) : Calls Try.prog 129 #[.int .i64 7] w fun e w' => e = .returned (.tuple #[.slice (some ⟨w.heap.size, 0, none⟩) 3 3, .bool true, .bool true]) ∧ w' = w.alloc (.cells #[.int .i64 0, .int .i64 0, .int .i64 0] 3) := by
  go_enter Try.func129, Try.ntmps129
  go_wp2
  go_ret3
  exact ⟨rfl, rfl⟩
theorem shape_8 (w : World) : Calls Try.prog 129 #[.int .i64 8] w fun e w' => e = .returned (.tuple #[.slice (some ⟨w.heap.size, 0, none⟩) 3 3, .bool true, .bool true]) ∧ w' = w.alloc (.cells #[.int .i64 1, .int .i64 1, .int .i64 2] 3) := by
  go_enter Try.func129, Try.ntmps129
  go_wp2
  go_ret3
  exact ⟨rfl, rfl⟩
theorem shape_9 (w : World) : Calls Try.prog 129 #[.int .i64 9] w fun e w' => e = .returned (.tuple #[.slice (some ⟨w.heap.size, 0, none⟩) 3 3, .bool false, .bool true]) ∧ w' = w.alloc (.cells #[.int .i64 1, .int .i64 0, .int .i64 0] 3) := by
  go_enter Try.func129, Try.ntmps129
  go_wp2
  go_ret3
  exact ⟨rfl, rfl⟩
theorem shape_10 (w : World) : Calls Try.prog 129 #[.int .i64 10] w fun e w' => e = .returned (.tuple #[.slice (some ⟨w.heap.size, 0, none⟩) 3 3, .bool true, .bool true]) ∧ w' = w.alloc (.cells #[.int .i64 1, .int .i64 1, .int .i64 0] 3) := by
  go_enter Try.func129, Try.ntmps129
  go_wp2
  go_ret3
  exact ⟨rfl, rfl⟩
theorem shape_11 (w : World) : Calls Try.prog 129 #[.int .i64 11] w fun e w' => e = .returned (.tuple #[.slice (some ⟨w.heap.size, 0, none⟩) 3 3, .bool true, .bool true]) ∧ w' = w.alloc (.cells #[.int .i64 1, .int .i64 0, .int .i64 0] 3) := by
  go_enter Try.func129, Try.ntmps129
  go_wp2
  go_ret3
  exact ⟨rfl, rfl⟩
theorem shape_12 (w : World) : Calls Try.prog 129 #[.int .i64 12] w fun e w' => e = .returned (.tuple #[.slice (some ⟨w.heap.size, 0, none⟩) 3 3, .bool false, .bool true]) ∧ w' = w.alloc (.cells #[.int .i64 0, .int .i64 0, .int .i64 0] 3) := by
  go_enter Try.func129, Try.ntmps129
  go_wp2
  go_ret3
  exact ⟨rfl, rfl⟩
theorem shape_op (op : Int) (h0 : 20 < op) (h1 : op ≤ 30) (w : World) : Calls Try.prog 129 #[.int .i64 op] w fun e w' => e = .returned (.tuple #[.slice (some ⟨w.heap.size, 0, none⟩) 3 3, .bool false, .bool true]) ∧ w' = w.alloc (.cells #[.int .i64 1, .int .i64 1, .int .i64 1] 3) := by
  go_enter Try.func129, Try.ntmps129
  go_wp2
  go_ret3
  exact ⟨rfl, rfl⟩
theorem shape_none (op : Int) (h : op ≤ 20 ∨ 30 < op) (n1 : (op == 1) = false) (n2 : (op == 2) = false) (n3 : (op == 3) = false) (n4 : (op == 4) = false) (n5 : (op == 5) = false) (n6 : (op == 6) = false) (n7 : (op == 7) = false) (n8 : (op == 8) = false) (n9 : (op == 9) = false) (n10 : (op == 10) = false) (n11 : (op == 11) = false) (n12 : (op == 12) = false) (w : World) : Calls Try.prog 129 #[.int .i64 op] w fun e w' => e = .returned (.tuple #[.slice none 0 0, .bool false, .bool false]) ∧ w = w' := by
  rcases h with h | h
  · have hd : decide ((20 : Int) < op) = false := by simpa using h
    go_enter Try.func129, Try.ntmps129
    go_wp2
    go_ret3
    exact ⟨rfl, rfl⟩
  · have h0 : (20 : Int) < op := by omega
    have hd : decide (op ≤ (30 : Int)) = false := by simpa using h
    go_enter Try.func129, Try.ntmps129
    go_wp2
    go_ret3
    exact ⟨rfl, rfl⟩
end Go.Proofs.Yteiknefajlocoaa
/- The walk of the reference's ins, a kind of instruction each. -/
namespace Go.Proofs.Yteiknefajlocoaa
open Go.ChangeShapes Go.WideShapes Go.ChangeAt Go.RowKit
set_option linter.unusedVariables false
set_option linter.unusedSimpArgs false

def tri (x y z : Int) (t : Nat) : Int := if t = 0 then x else if t = 1 then y else z
/-- may a field be: of a kind (0: nothing, 1: a register) -/
def fok (R l f : Int) : Bool := if l = 0 then decide (f = 0) else if l = 1 then decide (0 ≤ f) && decide (f < R) else true
theorem blk_tri {w : World} {k : Nat} {T : TypeId} {x y z : Int} (h : Blk w k T #[.int .i64 x, .int .i64 y, .int .i64 z]) (t : Nat) (ht : t < 3) : w.cell? ⟨k, t, none⟩ = some (.int .i64 (tri x y z t)) := by
  rw [h.cell]
  rcases (show t = 0 ∨ t = 1 ∨ t = 2 by omega) with rfl | rfl | rfl <;> rfl
theorem index_three (k : Nat) (W : World) (i : Int) (h0 : 0 ≤ i) (h1 : i < 3) : (Instr.indexAt 51 (.slice (some ⟨k, 0, none⟩) 3 3) (.int .i64 i)).run Try.prog W = .ok (.pointer (some ⟨k, i.toNat, none⟩)) W := by
  have hs : (Try.prog.info? 3).map (·.size) = some 1 := by kernel_rfl
  have h1' : i < ((3 : Nat) : Int) := by omega
  simp [Instr.indexAt, run_underlying Try.underlying51, asIntOf, h0, h1]
  exact (addr_add k 0 _).trans (by simp)
theorem fok_iff {R l f : Int} : fok R l f = true ↔ (l = 0 → f = 0) ∧ (l = 1 → 0 ≤ f ∧ f < R) := by
  unfold fok
  by_cases h0 : l = 0
  · simp [h0]
  by_cases h1 : l = 1
  · simp [h1]
  simp [h0, h1]

end Go.Proofs.Yteiknefajlocoaa
/- The walk of the reference's ins, a kind of instruction each. -/
namespace Go.Proofs.Yteiknefajlocoaa
open Go.ChangeShapes Go.WideShapes Go.ChangeAt Go.RowKit
set_option linter.unusedVariables false
set_option linter.unusedSimpArgs false

set_option maxRecDepth 100000 in
set_option maxHeartbeats 4000000 in
theorem rIns_1 (p : LProg) (vp : Value) (R : Int) (a b c n : Int) (fa : R64 a) (fb : R64 b) (fc : R64 c) (fn : R64 n) (fR : R64 R) (w : World) (hp : ProgAt w vp p) :
    Calls Try.prog 100 #[vp, .agg #[.int .i64 1, .int .i64 a, .int .i64 b, .int .i64 c, .int .i64 n], .int .i64 R] w fun e w' => e = .returned (.bool (insOk p R ⟨1, a, b, c, n⟩)) ∧ Ext w w' := by
  have HP := Lib.hid hp
  obtain ⟨v1, v2, rfl, ⟨hb, oa, cap, b0, o, rfl, hc1, hc2, hrow⟩, ⟨hf, ob, capb, b2, o2, rfl, hd1, hd2, hrow2⟩⟩ := hp
  have hlen := len_bd hc1 hc2
  have hlen2 := len_bd hd1 hd2
  have Hrow := Lib.hid hrow
  have hat := hrow.at_
  have r0 := fR.1; have r1 := fR.2
  have a0 := fa.1; have a1 := fa.2; have b00 := fb.1; have b01 := fb.2; have c0' := fc.1; have c1' := fc.2; have n0' := fn.1; have n1' := fn.2
  clear hc1 hc2 hd1 hd2 hrow hrow2 hb hf
  have Hgoal : ∀ r : Bool, Hid ((r = true ↔ insOk p R ⟨1, a, b, c, n⟩ = true) → insOk p R ⟨1, a, b, c, n⟩ = r) := fun r => Lib.hid fun h => by
    cases r <;> cases hh : insOk p R ⟨1, a, b, c, n⟩ <;> simp_all
  have Hins : Hid (insOk p R ⟨1, a, b, c, n⟩ = true ↔ (fok R 1 a = true ∧ fok R 0 b = true ∧ fok R 0 c = true) ∧ True) := Lib.hid (by
    simp only [fok_iff]
    unfold insOk; simp [okIn]
    try omega)
  go_enter Try.func100, Try.ntmps100
  go_wp2_with fail
  obtain ⟨W, g, hg, hW, hx, bA, bB⟩ := blocks2 w #[.slice oa p.regs.length cap, .slice ob p.code.length capb] #[.int .i64 1, .int .i64 a, .int .i64 b, .int .i64 c, .int .i64 n] 25 70
  rw [hW, hg]
  have X := Lib.hid hx
  clear hW hg hx
  have C := (shape_1 W)
  (with_reducible refine C.mono ?_)
  clear C
  rintro e w1 ⟨rfl, hw1⟩
  have bS : Blk w1 W.heap.size 3 #[.int .i64 1, .int .i64 0, .int .i64 0] := by rw [hw1]; exact Blk.new W _ _
  have h1 : Ext W w1 := by rw [hw1]; exact (Ext.refl W).alloc _
  clear hw1
  generalize W.heap.size = ks at *
  have bA := bA.ext h1
  have bB := bB.ext h1
  have X := Lib.hid (X.out.trans h1)
  clear h1
  have p0 : w1.cell? ⟨g, 0, none⟩ = some (.slice oa p.regs.length cap) := by rw [bA.cell]; rfl
  have p1 : w1.cell? ⟨g, 1, none⟩ = some (.slice ob p.code.length capb) := by rw [bA.cell]; rfl
  have e0 : w1.cell? ⟨g + 1, 0, none⟩ = some (.int .i64 1) := by rw [bB.cell]; rfl
  have e1 : w1.cell? ⟨g + 1, 1, none⟩ = some (.int .i64 a) := by rw [bB.cell]; rfl
  have e2 : w1.cell? ⟨g + 1, 2, none⟩ = some (.int .i64 b) := by rw [bB.cell]; rfl
  have e3 : w1.cell? ⟨g + 1, 3, none⟩ = some (.int .i64 c) := by rw [bB.cell]; rfl
  have e4 : w1.cell? ⟨g + 1, 4, none⟩ = some (.int .i64 n) := by rw [bB.cell]; rfl
  go_wp2_with fail
  obtain ⟨w2, hw2⟩ : ∃ w2, w2 = w1.alloc (.cells #[.int .i64 a, .int .i64 b, .int .i64 c] 3) := ⟨_, rfl⟩
  have bF : Blk w2 w1.heap.size 3 #[.int .i64 a, .int .i64 b, .int .i64 c] := by rw [hw2]; exact Blk.new w1 _ _
  have h2 : Ext w1 w2 := by rw [hw2]; exact (Ext.refl w1).alloc _
  rw [← hw2]
  clear hw2
  generalize w1.heap.size = kf at *
  have bA := bA.ext h2
  have bB := bB.ext h2
  have bS := bS.ext h2
  have X := Lib.hid (X.out.trans h2)
  clear h2 p0 p1 e0 e1 e2 e3 e4
  go_loopw [11] (fun i wr => ∃ j : Nat, j ≤ 3 ∧ i = .int .i64 j ∧ Ext w2 wr ∧ ∀ t, t < j → fok R (tri 1 0 0 t) (tri a b c t) = true) (fun i _ => 3 - (intOf i).toNat)
  case atStart => exact ⟨0, by omega, rfl, Ext.refl _, fun t ht => by omega⟩
  case round =>
    obtain ⟨j, hj, rfl, hE, hok⟩ := hrel
    have bA := bA.ext hE
    have bB := bB.ext hE
    have bS := bS.ext hE
    have bF := bF.ext hE
    have X := Lib.hid (X.out.trans hE)
    have HE := Lib.hid hE
    have Hok := Lib.hid hok
    clear hE hok
    by_cases hlt : j < 3
    · have hjj : j = 0 ∨ j = 1 ∨ j = 2 := by omega
      rcases hjj with rfl | rfl | rfl
      · have s0 : wr.cell? ⟨ks, 0, none⟩ = some (.int .i64 1) := by rw [bS.cell]; rfl
        have f0 : wr.cell? ⟨kf, 0, none⟩ = some (.int .i64 a) := by rw [bF.cell]; rfl
        by_cases hz : 0 ≤ a
        · by_cases hy : a < R
          · go_wp2
            go_roundw
            case rel => exact ⟨1, by omega, by first | rfl | go_num, HE.out, fun t ht => by
              rcases (show t < 0 ∨ t = 0 by omega) with h | h
              · exact Hok.out t h
              · subst h; exact fok_iff.2 ⟨fun h => absurd h (by decide), fun _ => ⟨hz, hy⟩⟩⟩
            case measure => simp [intOf]

          · go_wp2
            go_ret
            refine ⟨ret_b ?_, X.out⟩
            cases hh : insOk p R ⟨1, a, b, c, n⟩
            · rfl
            · exfalso
              have hq := Hins.out.1 hh
              (simp [fok_iff] at hq) <;> omega

        · go_wp2
          go_ret
          refine ⟨ret_b ?_, X.out⟩
          cases hh : insOk p R ⟨1, a, b, c, n⟩
          · rfl
          · exfalso
            have hq := Hins.out.1 hh
            (simp [fok_iff] at hq) <;> omega
      · have s0 : wr.cell? ⟨ks, 1, none⟩ = some (.int .i64 0) := by rw [bS.cell]; rfl
        have f0 : wr.cell? ⟨kf, 1, none⟩ = some (.int .i64 b) := by rw [bF.cell]; rfl
        by_cases hz : b = 0
        · have hz1 : (b != 0) = false := by simpa using hz
          go_wp2
          go_roundw
          case rel => exact ⟨2, by omega, by first | rfl | go_num, HE.out, fun t ht => by
            rcases (show t < 1 ∨ t = 1 by omega) with h | h
            · exact Hok.out t h
            · subst h; exact fok_iff.2 ⟨fun _ => hz, fun h => absurd h (by decide)⟩⟩
          case measure => simp [intOf]

        · have hz1 : (b != 0) = true := by simpa using hz
          go_wp2
          go_ret
          refine ⟨ret_b ?_, X.out⟩
          cases hh : insOk p R ⟨1, a, b, c, n⟩
          · rfl
          · exfalso
            have hq := Hins.out.1 hh
            (simp [fok_iff] at hq) <;> omega
      · have s0 : wr.cell? ⟨ks, 2, none⟩ = some (.int .i64 0) := by rw [bS.cell]; rfl
        have f0 : wr.cell? ⟨kf, 2, none⟩ = some (.int .i64 c) := by rw [bF.cell]; rfl
        by_cases hz : c = 0
        · have hz1 : (c != 0) = false := by simpa using hz
          go_wp2
          go_roundw
          case rel => exact ⟨3, by omega, by first | rfl | go_num, HE.out, fun t ht => by
            rcases (show t < 2 ∨ t = 2 by omega) with h | h
            · exact Hok.out t h
            · subst h; exact fok_iff.2 ⟨fun _ => hz, fun h => absurd h (by decide)⟩⟩
          case measure => simp [intOf]

        · have hz1 : (c != 0) = true := by simpa using hz
          go_wp2
          go_ret
          refine ⟨ret_b ?_, X.out⟩
          cases hh : insOk p R ⟨1, a, b, c, n⟩
          · rfl
          · exfalso
            have hq := Hins.out.1 hh
            (simp [fok_iff] at hq) <;> omega
    · obtain rfl : j = 3 := by omega
      have k0 := Hok.out 0 (by omega)
      have k1 := Hok.out 1 (by omega)
      have k2 := Hok.out 2 (by omega)
      have K := Lib.hid (And.intro k0 (And.intro k1 k2))
      clear k0 k1 k2
      have p0 : wr.cell? ⟨g, 0, none⟩ = some (.slice oa p.regs.length cap) := by rw [bA.cell]; rfl
      have p1 : wr.cell? ⟨g, 1, none⟩ = some (.slice ob p.code.length capb) := by rw [bA.cell]; rfl
      have e0 : wr.cell? ⟨g + 1, 0, none⟩ = some (.int .i64 1) := by rw [bB.cell]; rfl
      have e1 : wr.cell? ⟨g + 1, 1, none⟩ = some (.int .i64 a) := by rw [bB.cell]; rfl
      have e2 : wr.cell? ⟨g + 1, 2, none⟩ = some (.int .i64 b) := by rw [bB.cell]; rfl
      have e3 : wr.cell? ⟨g + 1, 3, none⟩ = some (.int .i64 c) := by rw [bB.cell]; rfl
      have e4 : wr.cell? ⟨g + 1, 4, none⟩ = some (.int .i64 n) := by rw [bB.cell]; rfl
      go_wp2
      go_ret
      exact ⟨ret_b (Hins.out.2 ⟨⟨K.out.1, K.out.2.1, K.out.2.2⟩, by first | trivial | omega⟩).symm, X.out⟩

set_option maxRecDepth 100000 in
set_option maxHeartbeats 4000000 in
theorem rIns_2 (p : LProg) (vp : Value) (R : Int) (a b c n : Int) (fa : R64 a) (fb : R64 b) (fc : R64 c) (fn : R64 n) (fR : R64 R) (w : World) (hp : ProgAt w vp p) :
    Calls Try.prog 100 #[vp, .agg #[.int .i64 2, .int .i64 a, .int .i64 b, .int .i64 c, .int .i64 n], .int .i64 R] w fun e w' => e = .returned (.bool (insOk p R ⟨2, a, b, c, n⟩)) ∧ Ext w w' := by
  have HP := Lib.hid hp
  obtain ⟨v1, v2, rfl, ⟨hb, oa, cap, b0, o, rfl, hc1, hc2, hrow⟩, ⟨hf, ob, capb, b2, o2, rfl, hd1, hd2, hrow2⟩⟩ := hp
  have hlen := len_bd hc1 hc2
  have hlen2 := len_bd hd1 hd2
  have Hrow := Lib.hid hrow
  have hat := hrow.at_
  have r0 := fR.1; have r1 := fR.2
  have a0 := fa.1; have a1 := fa.2; have b00 := fb.1; have b01 := fb.2; have c0' := fc.1; have c1' := fc.2; have n0' := fn.1; have n1' := fn.2
  clear hc1 hc2 hd1 hd2 hrow hrow2 hb hf
  have Hgoal : ∀ r : Bool, Hid ((r = true ↔ insOk p R ⟨2, a, b, c, n⟩ = true) → insOk p R ⟨2, a, b, c, n⟩ = r) := fun r => Lib.hid fun h => by
    cases r <;> cases hh : insOk p R ⟨2, a, b, c, n⟩ <;> simp_all
  have Hins : Hid (insOk p R ⟨2, a, b, c, n⟩ = true ↔ (fok R 1 a = true ∧ fok R 1 b = true ∧ fok R 0 c = true ∧ n = 0) ∧ True) := Lib.hid (by
    simp only [fok_iff]
    unfold insOk; simp [okIn]
    try omega)
  go_enter Try.func100, Try.ntmps100
  go_wp2_with fail
  obtain ⟨W, g, hg, hW, hx, bA, bB⟩ := blocks2 w #[.slice oa p.regs.length cap, .slice ob p.code.length capb] #[.int .i64 2, .int .i64 a, .int .i64 b, .int .i64 c, .int .i64 n] 25 70
  rw [hW, hg]
  have X := Lib.hid hx
  clear hW hg hx
  have C := (shape_2 W)
  (with_reducible refine C.mono ?_)
  clear C
  rintro e w1 ⟨rfl, hw1⟩
  have bS : Blk w1 W.heap.size 3 #[.int .i64 1, .int .i64 1, .int .i64 0] := by rw [hw1]; exact Blk.new W _ _
  have h1 : Ext W w1 := by rw [hw1]; exact (Ext.refl W).alloc _
  clear hw1
  generalize W.heap.size = ks at *
  have bA := bA.ext h1
  have bB := bB.ext h1
  have X := Lib.hid (X.out.trans h1)
  clear h1
  have p0 : w1.cell? ⟨g, 0, none⟩ = some (.slice oa p.regs.length cap) := by rw [bA.cell]; rfl
  have p1 : w1.cell? ⟨g, 1, none⟩ = some (.slice ob p.code.length capb) := by rw [bA.cell]; rfl
  have e0 : w1.cell? ⟨g + 1, 0, none⟩ = some (.int .i64 2) := by rw [bB.cell]; rfl
  have e1 : w1.cell? ⟨g + 1, 1, none⟩ = some (.int .i64 a) := by rw [bB.cell]; rfl
  have e2 : w1.cell? ⟨g + 1, 2, none⟩ = some (.int .i64 b) := by rw [bB.cell]; rfl
  have e3 : w1.cell? ⟨g + 1, 3, none⟩ = some (.int .i64 c) := by rw [bB.cell]; rfl
  have e4 : w1.cell? ⟨g + 1, 4, none⟩ = some (.int .i64 n) := by rw [bB.cell]; rfl
  by_cases hn : n = 0
  rotate_left
  · have hn1 : (n != 0) = true := by simpa using hn
    go_wp2
    go_ret
    refine ⟨ret_b ?_, X.out⟩
    cases hh : insOk p R ⟨2, a, b, c, n⟩
    · rfl
    · exfalso
      have hq := Hins.out.1 hh
      (simp [fok_iff] at hq) <;> omega
  subst hn
  clear n0' n1'
  go_wp2_with fail
  obtain ⟨w2, hw2⟩ : ∃ w2, w2 = w1.alloc (.cells #[.int .i64 a, .int .i64 b, .int .i64 c] 3) := ⟨_, rfl⟩
  have bF : Blk w2 w1.heap.size 3 #[.int .i64 a, .int .i64 b, .int .i64 c] := by rw [hw2]; exact Blk.new w1 _ _
  have h2 : Ext w1 w2 := by rw [hw2]; exact (Ext.refl w1).alloc _
  rw [← hw2]
  clear hw2
  generalize w1.heap.size = kf at *
  have bA := bA.ext h2
  have bB := bB.ext h2
  have bS := bS.ext h2
  have X := Lib.hid (X.out.trans h2)
  clear h2 p0 p1 e0 e1 e2 e3 e4
  go_loopw [11] (fun i wr => ∃ j : Nat, j ≤ 3 ∧ i = .int .i64 j ∧ Ext w2 wr ∧ ∀ t, t < j → fok R (tri 1 1 0 t) (tri a b c t) = true) (fun i _ => 3 - (intOf i).toNat)
  case atStart => exact ⟨0, by omega, rfl, Ext.refl _, fun t ht => by omega⟩
  case round =>
    obtain ⟨j, hj, rfl, hE, hok⟩ := hrel
    have bA := bA.ext hE
    have bB := bB.ext hE
    have bS := bS.ext hE
    have bF := bF.ext hE
    have X := Lib.hid (X.out.trans hE)
    have HE := Lib.hid hE
    have Hok := Lib.hid hok
    clear hE hok
    by_cases hlt : j < 3
    · have hjj : j = 0 ∨ j = 1 ∨ j = 2 := by omega
      rcases hjj with rfl | rfl | rfl
      · have s0 : wr.cell? ⟨ks, 0, none⟩ = some (.int .i64 1) := by rw [bS.cell]; rfl
        have f0 : wr.cell? ⟨kf, 0, none⟩ = some (.int .i64 a) := by rw [bF.cell]; rfl
        by_cases hz : 0 ≤ a
        · by_cases hy : a < R
          · go_wp2
            go_roundw
            case rel => exact ⟨1, by omega, by first | rfl | go_num, HE.out, fun t ht => by
              rcases (show t < 0 ∨ t = 0 by omega) with h | h
              · exact Hok.out t h
              · subst h; exact fok_iff.2 ⟨fun h => absurd h (by decide), fun _ => ⟨hz, hy⟩⟩⟩
            case measure => simp [intOf]

          · go_wp2
            go_ret
            refine ⟨ret_b ?_, X.out⟩
            cases hh : insOk p R ⟨2, a, b, c, 0⟩
            · rfl
            · exfalso
              have hq := Hins.out.1 hh
              (simp [fok_iff] at hq) <;> omega

        · go_wp2
          go_ret
          refine ⟨ret_b ?_, X.out⟩
          cases hh : insOk p R ⟨2, a, b, c, 0⟩
          · rfl
          · exfalso
            have hq := Hins.out.1 hh
            (simp [fok_iff] at hq) <;> omega
      · have s0 : wr.cell? ⟨ks, 1, none⟩ = some (.int .i64 1) := by rw [bS.cell]; rfl
        have f0 : wr.cell? ⟨kf, 1, none⟩ = some (.int .i64 b) := by rw [bF.cell]; rfl
        by_cases hz : 0 ≤ b
        · by_cases hy : b < R
          · go_wp2
            go_roundw
            case rel => exact ⟨2, by omega, by first | rfl | go_num, HE.out, fun t ht => by
              rcases (show t < 1 ∨ t = 1 by omega) with h | h
              · exact Hok.out t h
              · subst h; exact fok_iff.2 ⟨fun h => absurd h (by decide), fun _ => ⟨hz, hy⟩⟩⟩
            case measure => simp [intOf]

          · go_wp2
            go_ret
            refine ⟨ret_b ?_, X.out⟩
            cases hh : insOk p R ⟨2, a, b, c, 0⟩
            · rfl
            · exfalso
              have hq := Hins.out.1 hh
              (simp [fok_iff] at hq) <;> omega

        · go_wp2
          go_ret
          refine ⟨ret_b ?_, X.out⟩
          cases hh : insOk p R ⟨2, a, b, c, 0⟩
          · rfl
          · exfalso
            have hq := Hins.out.1 hh
            (simp [fok_iff] at hq) <;> omega
      · have s0 : wr.cell? ⟨ks, 2, none⟩ = some (.int .i64 0) := by rw [bS.cell]; rfl
        have f0 : wr.cell? ⟨kf, 2, none⟩ = some (.int .i64 c) := by rw [bF.cell]; rfl
        by_cases hz : c = 0
        · have hz1 : (c != 0) = false := by simpa using hz
          go_wp2
          go_roundw
          case rel => exact ⟨3, by omega, by first | rfl | go_num, HE.out, fun t ht => by
            rcases (show t < 2 ∨ t = 2 by omega) with h | h
            · exact Hok.out t h
            · subst h; exact fok_iff.2 ⟨fun _ => hz, fun h => absurd h (by decide)⟩⟩
          case measure => simp [intOf]

        · have hz1 : (c != 0) = true := by simpa using hz
          go_wp2
          go_ret
          refine ⟨ret_b ?_, X.out⟩
          cases hh : insOk p R ⟨2, a, b, c, 0⟩
          · rfl
          · exfalso
            have hq := Hins.out.1 hh
            (simp [fok_iff] at hq) <;> omega
    · obtain rfl : j = 3 := by omega
      have k0 := Hok.out 0 (by omega)
      have k1 := Hok.out 1 (by omega)
      have k2 := Hok.out 2 (by omega)
      have K := Lib.hid (And.intro k0 (And.intro k1 k2))
      clear k0 k1 k2
      have p0 : wr.cell? ⟨g, 0, none⟩ = some (.slice oa p.regs.length cap) := by rw [bA.cell]; rfl
      have p1 : wr.cell? ⟨g, 1, none⟩ = some (.slice ob p.code.length capb) := by rw [bA.cell]; rfl
      have e0 : wr.cell? ⟨g + 1, 0, none⟩ = some (.int .i64 2) := by rw [bB.cell]; rfl
      have e1 : wr.cell? ⟨g + 1, 1, none⟩ = some (.int .i64 a) := by rw [bB.cell]; rfl
      have e2 : wr.cell? ⟨g + 1, 2, none⟩ = some (.int .i64 b) := by rw [bB.cell]; rfl
      have e3 : wr.cell? ⟨g + 1, 3, none⟩ = some (.int .i64 c) := by rw [bB.cell]; rfl
      have e4 : wr.cell? ⟨g + 1, 4, none⟩ = some (.int .i64 0) := by rw [bB.cell]; rfl
      go_wp2
      go_ret
      exact ⟨ret_b (Hins.out.2 ⟨⟨K.out.1, K.out.2.1, K.out.2.2, by trivial⟩, by first | trivial | omega⟩).symm, X.out⟩

set_option maxRecDepth 100000 in
set_option maxHeartbeats 4000000 in
theorem rIns_3 (p : LProg) (vp : Value) (R : Int) (a b c n : Int) (fa : R64 a) (fb : R64 b) (fc : R64 c) (fn : R64 n) (fR : R64 R) (w : World) (hp : ProgAt w vp p) :
    Calls Try.prog 100 #[vp, .agg #[.int .i64 3, .int .i64 a, .int .i64 b, .int .i64 c, .int .i64 n], .int .i64 R] w fun e w' => e = .returned (.bool (insOk p R ⟨3, a, b, c, n⟩)) ∧ Ext w w' := by
  have HP := Lib.hid hp
  obtain ⟨v1, v2, rfl, ⟨hb, oa, cap, b0, o, rfl, hc1, hc2, hrow⟩, ⟨hf, ob, capb, b2, o2, rfl, hd1, hd2, hrow2⟩⟩ := hp
  have hlen := len_bd hc1 hc2
  have hlen2 := len_bd hd1 hd2
  have Hrow := Lib.hid hrow
  have hat := hrow.at_
  have r0 := fR.1; have r1 := fR.2
  have a0 := fa.1; have a1 := fa.2; have b00 := fb.1; have b01 := fb.2; have c0' := fc.1; have c1' := fc.2; have n0' := fn.1; have n1' := fn.2
  clear hc1 hc2 hd1 hd2 hrow hrow2 hb hf
  have Hgoal : ∀ r : Bool, Hid ((r = true ↔ insOk p R ⟨3, a, b, c, n⟩ = true) → insOk p R ⟨3, a, b, c, n⟩ = r) := fun r => Lib.hid fun h => by
    cases r <;> cases hh : insOk p R ⟨3, a, b, c, n⟩ <;> simp_all
  have Hins : Hid (insOk p R ⟨3, a, b, c, n⟩ = true ↔ (fok R 1 a = true ∧ fok R 1 b = true ∧ fok R 2 c = true) ∧ (0 ≤ c ∧ c < (p.regs.length : Int))) := Lib.hid (by
    simp only [fok_iff]
    unfold insOk; simp [okIn]
    try omega)
  go_enter Try.func100, Try.ntmps100
  go_wp2_with fail
  obtain ⟨W, g, hg, hW, hx, bA, bB⟩ := blocks2 w #[.slice oa p.regs.length cap, .slice ob p.code.length capb] #[.int .i64 3, .int .i64 a, .int .i64 b, .int .i64 c, .int .i64 n] 25 70
  rw [hW, hg]
  have X := Lib.hid hx
  clear hW hg hx
  have C := (shape_3 W)
  (with_reducible refine C.mono ?_)
  clear C
  rintro e w1 ⟨rfl, hw1⟩
  have bS : Blk w1 W.heap.size 3 #[.int .i64 1, .int .i64 1, .int .i64 2] := by rw [hw1]; exact Blk.new W _ _
  have h1 : Ext W w1 := by rw [hw1]; exact (Ext.refl W).alloc _
  clear hw1
  generalize W.heap.size = ks at *
  have bA := bA.ext h1
  have bB := bB.ext h1
  have X := Lib.hid (X.out.trans h1)
  clear h1
  have p0 : w1.cell? ⟨g, 0, none⟩ = some (.slice oa p.regs.length cap) := by rw [bA.cell]; rfl
  have p1 : w1.cell? ⟨g, 1, none⟩ = some (.slice ob p.code.length capb) := by rw [bA.cell]; rfl
  have e0 : w1.cell? ⟨g + 1, 0, none⟩ = some (.int .i64 3) := by rw [bB.cell]; rfl
  have e1 : w1.cell? ⟨g + 1, 1, none⟩ = some (.int .i64 a) := by rw [bB.cell]; rfl
  have e2 : w1.cell? ⟨g + 1, 2, none⟩ = some (.int .i64 b) := by rw [bB.cell]; rfl
  have e3 : w1.cell? ⟨g + 1, 3, none⟩ = some (.int .i64 c) := by rw [bB.cell]; rfl
  have e4 : w1.cell? ⟨g + 1, 4, none⟩ = some (.int .i64 n) := by rw [bB.cell]; rfl
  go_wp2_with fail
  obtain ⟨w2, hw2⟩ : ∃ w2, w2 = w1.alloc (.cells #[.int .i64 a, .int .i64 b, .int .i64 c] 3) := ⟨_, rfl⟩
  have bF : Blk w2 w1.heap.size 3 #[.int .i64 a, .int .i64 b, .int .i64 c] := by rw [hw2]; exact Blk.new w1 _ _
  have h2 : Ext w1 w2 := by rw [hw2]; exact (Ext.refl w1).alloc _
  rw [← hw2]
  clear hw2
  generalize w1.heap.size = kf at *
  have bA := bA.ext h2
  have bB := bB.ext h2
  have bS := bS.ext h2
  have X := Lib.hid (X.out.trans h2)
  clear h2 p0 p1 e0 e1 e2 e3 e4
  go_loopw [11] (fun i wr => ∃ j : Nat, j ≤ 3 ∧ i = .int .i64 j ∧ Ext w2 wr ∧ ∀ t, t < j → fok R (tri 1 1 2 t) (tri a b c t) = true) (fun i _ => 3 - (intOf i).toNat)
  case atStart => exact ⟨0, by omega, rfl, Ext.refl _, fun t ht => by omega⟩
  case round =>
    obtain ⟨j, hj, rfl, hE, hok⟩ := hrel
    have bA := bA.ext hE
    have bB := bB.ext hE
    have bS := bS.ext hE
    have bF := bF.ext hE
    have X := Lib.hid (X.out.trans hE)
    have HE := Lib.hid hE
    have Hok := Lib.hid hok
    clear hE hok
    by_cases hlt : j < 3
    · have hjj : j = 0 ∨ j = 1 ∨ j = 2 := by omega
      rcases hjj with rfl | rfl | rfl
      · have s0 : wr.cell? ⟨ks, 0, none⟩ = some (.int .i64 1) := by rw [bS.cell]; rfl
        have f0 : wr.cell? ⟨kf, 0, none⟩ = some (.int .i64 a) := by rw [bF.cell]; rfl
        by_cases hz : 0 ≤ a
        · by_cases hy : a < R
          · go_wp2
            go_roundw
            case rel => exact ⟨1, by omega, by first | rfl | go_num, HE.out, fun t ht => by
              rcases (show t < 0 ∨ t = 0 by omega) with h | h
              · exact Hok.out t h
              · subst h; exact fok_iff.2 ⟨fun h => absurd h (by decide), fun _ => ⟨hz, hy⟩⟩⟩
            case measure => simp [intOf]

          · go_wp2
            go_ret
            refine ⟨ret_b ?_, X.out⟩
            cases hh : insOk p R ⟨3, a, b, c, n⟩
            · rfl
            · exfalso
              have hq := Hins.out.1 hh
              (simp [fok_iff] at hq) <;> omega

        · go_wp2
          go_ret
          refine ⟨ret_b ?_, X.out⟩
          cases hh : insOk p R ⟨3, a, b, c, n⟩
          · rfl
          · exfalso
            have hq := Hins.out.1 hh
            (simp [fok_iff] at hq) <;> omega
      · have s0 : wr.cell? ⟨ks, 1, none⟩ = some (.int .i64 1) := by rw [bS.cell]; rfl
        have f0 : wr.cell? ⟨kf, 1, none⟩ = some (.int .i64 b) := by rw [bF.cell]; rfl
        by_cases hz : 0 ≤ b
        · by_cases hy : b < R
          · go_wp2
            go_roundw
            case rel => exact ⟨2, by omega, by first | rfl | go_num, HE.out, fun t ht => by
              rcases (show t < 1 ∨ t = 1 by omega) with h | h
              · exact Hok.out t h
              · subst h; exact fok_iff.2 ⟨fun h => absurd h (by decide), fun _ => ⟨hz, hy⟩⟩⟩
            case measure => simp [intOf]

          · go_wp2
            go_ret
            refine ⟨ret_b ?_, X.out⟩
            cases hh : insOk p R ⟨3, a, b, c, n⟩
            · rfl
            · exfalso
              have hq := Hins.out.1 hh
              (simp [fok_iff] at hq) <;> omega

        · go_wp2
          go_ret
          refine ⟨ret_b ?_, X.out⟩
          cases hh : insOk p R ⟨3, a, b, c, n⟩
          · rfl
          · exfalso
            have hq := Hins.out.1 hh
            (simp [fok_iff] at hq) <;> omega
      · have s0 : wr.cell? ⟨ks, 2, none⟩ = some (.int .i64 2) := by rw [bS.cell]; rfl
        have f0 : wr.cell? ⟨kf, 2, none⟩ = some (.int .i64 c) := by rw [bF.cell]; rfl
        go_wp2
        go_roundw
        case rel => exact ⟨3, by omega, by first | rfl | go_num, HE.out, fun t ht => by
          rcases (show t < 2 ∨ t = 2 by omega) with h | h
          · exact Hok.out t h
          · subst h; exact fok_iff.2 ⟨fun h => absurd h (by decide), fun h => absurd h (by decide)⟩⟩
        case measure => simp [intOf]
    · obtain rfl : j = 3 := by omega
      have k0 := Hok.out 0 (by omega)
      have k1 := Hok.out 1 (by omega)
      have k2 := Hok.out 2 (by omega)
      have K := Lib.hid (And.intro k0 (And.intro k1 k2))
      clear k0 k1 k2
      have p0 : wr.cell? ⟨g, 0, none⟩ = some (.slice oa p.regs.length cap) := by rw [bA.cell]; rfl
      have p1 : wr.cell? ⟨g, 1, none⟩ = some (.slice ob p.code.length capb) := by rw [bA.cell]; rfl
      have e0 : wr.cell? ⟨g + 1, 0, none⟩ = some (.int .i64 3) := by rw [bB.cell]; rfl
      have e1 : wr.cell? ⟨g + 1, 1, none⟩ = some (.int .i64 a) := by rw [bB.cell]; rfl
      have e2 : wr.cell? ⟨g + 1, 2, none⟩ = some (.int .i64 b) := by rw [bB.cell]; rfl
      have e3 : wr.cell? ⟨g + 1, 3, none⟩ = some (.int .i64 c) := by rw [bB.cell]; rfl
      have e4 : wr.cell? ⟨g + 1, 4, none⟩ = some (.int .i64 n) := by rw [bB.cell]; rfl
      by_cases q0 : 0 ≤ c
      · by_cases q1 : c < (p.regs.length : Int)
        · go_wp2
          go_ret
          exact ⟨ret_b (Hins.out.2 ⟨⟨K.out.1, K.out.2.1, K.out.2.2⟩, by first | trivial | omega⟩).symm, X.out⟩
        · have q1d : decide (c < (p.regs.length : Int)) = false := by simpa using q1
          go_wp2
          go_ret
          refine ⟨ret_b ?_, X.out⟩
          cases hh : insOk p R ⟨3, a, b, c, n⟩
          · rfl
          · exfalso
            have hq := Hins.out.1 hh
            (simp [fok_iff] at hq) <;> omega
      · have q0d : decide (0 ≤ c) = false := by simpa using q0
        go_wp2
        go_ret
        refine ⟨ret_b ?_, X.out⟩
        cases hh : insOk p R ⟨3, a, b, c, n⟩
        · rfl
        · exfalso
          have hq := Hins.out.1 hh
          (simp [fok_iff] at hq) <;> omega

end Go.Proofs.Yteiknefajlocoaa
