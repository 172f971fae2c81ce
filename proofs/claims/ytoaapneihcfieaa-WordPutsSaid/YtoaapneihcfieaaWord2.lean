/- Walks of the reference's words: Put. -/
import Derived.Test.YtoaapneihcfieaaWord1
import Derived.Test.YtoaapneihcfieaaFormS2
namespace Go.Proofs.Ytoaapneihcfieaa
open Go.ChangeShapes Go.WideShapes Go.ChangeAt Go.RowKit
set_option linter.unusedVariables false
set_option linter.unusedSimpArgs false

set_option maxHeartbeats 4000000 in
theorem rPut_c (p : LProg) (v : Value) (w : World) (hp : ProgAt w v p) :
    Calls Try.prog 39 #[v] w (Put2' (putW p) w) := by
  have hp' := hp
  obtain ⟨v1, v2, rfl, ⟨hb, oa, cap, b, o, rfl, hc1, hc2, hrow⟩, ⟨hf, ob, capb, b2, o2, rfl, hd1, hd2, hrow2⟩⟩ := hp
  have HP := Lib.hid hp'
  have hlen2 := len_bd hd1 hd2
  have hix := index_code (cap := capb) hrow2.at_
  have Hrow2 := Lib.hid hrow2
  clear hrow hrow2 hc1 hc2 hd1 hd2 hp' hb
  go_enter Try.func39, Try.ntmps39
  go_wp2_with fail
  obtain ⟨W, g, hg, hW, hx, bA, bB⟩ := blocks2 w #[.slice oa p.regs.length cap, .slice ob p.code.length capb] #[.int .i64 0, .int .i64 0] 38 47
  rw [hW, hg]
  have X := Lib.hid hx
  have hgs : w.heap.size ≤ g := by omega
  clear hW hg hx
  have C := rHard_c p _ W (HP.out.ext X.out)
  cases hh : hardOk p
  · have Hp : Hid (putW p = ([], 2, 0)) := Lib.hid (by unfold putW; rw [hh]; rfl)
    rw [hh] at C
    clear hh
    (with_reducible refine C.mono ?_)
    rintro e w1 ⟨rfl, h1⟩
    have bB := bB.ext h1
    have X := Lib.hid (X.out.trans h1)
    have p0 : w1.cell? ⟨g + 1, 0, none⟩ = some (.int .i64 0) ∧ w1.frozen? ⟨g + 1, 0, none⟩ = false := ⟨by rw [bB.cell]; rfl, bB.frozen 0⟩
    have p1 : w1.cell? ⟨g + 1, 1, none⟩ = some (.int .i64 0) ∧ w1.frozen? ⟨g + 1, 1, none⟩ = false := ⟨by rw [bB.cell]; rfl, bB.frozen 1⟩
    clear h1 C
    go_wp2
    exact bodyPost_ret (results_tc (fault_put bB) rfl _ rfl rfl Try.underlying47 rfl (by kernel_rfl)) rfl (ret_put Hp.out (by omega) (u32s_nil _) (ext_fault X.out (by omega)))
  have Hh := Lib.hid hh
  rw [hh] at C
  clear hh
  (with_reducible refine C.mono ?_)
  rintro e w1 ⟨rfl, h1⟩
  have bA := bA.ext h1
  have bB := bB.ext h1
  have X := Lib.hid (X.out.trans h1)
  have c1 : w1.cell? ⟨g, 1, none⟩ = some (.slice ob p.code.length capb) := by rw [bA.cell]; rfl
  clear h1 C
  have hg1 : g + 1 < w1.heap.size := bB.lt
  obtain ⟨i0, hi0, hz0, hz1, hz2⟩ := info_parts infoU32
  have hcl : p.code.length ≤ 8000 := (hard_parts Hh.out).2.2.1
  go_wp2_with fail
  go_loopw [4, 5] (fun l i wr => ∃ j : Nat, j ≤ p.code.length ∧ i = .int .i64 j ∧ wr.ownsRow w1.heap.size 71 1 l j (((p.code.take j).map wordI).map (Value.int .u32)) ∧ Below w1.heap.size w1 wr ∧ (∀ i ∈ p.code.take j, fitsW i = true)) (fun _ i _ => p.code.length - (intOf i).toNat)
  case atStart => exact ⟨0, by omega, rfl, World.ownsRow_nil _ _ _ _, Below.refl _ _, by simp⟩
  case round =>
    obtain ⟨j, hj, rfl, hown, hE, hall⟩ := hrel
    have hx : Ext w1 wr := hE
    have bA := bA.ext hx
    have bB := bB.ext hx
    have X := Lib.hid (X.out.trans hx)
    have HE := Lib.hid hE
    have Hall := Lib.hid hall
    have Hown := Lib.hid hown
    clear hE hall hx hown
    by_cases hlt : j < p.code.length
    · obtain ⟨e0, e1, e2, e3, e4⟩ := (Hrow2.out.ext X.out).ins j hlt
      have hfi := hf _ (getD_mem hlt)
      have Hmiss := Lib.hid (missW_take p.code j 0 hlt Hall.out)
      have Hin : Hid (p.code.getD j default ∈ p.code) := Lib.hid (getD_mem hlt)
      have Htk : Hid (p.code.take (j + 1) = p.code.take j ++ [p.code.getD j default]) := Lib.hid (by rw [List.take_succ_eq_append_getElem hlt]; simp [hlt])
      generalize p.code.getD j default = i at *
      have hgl := bB.lt
      have hgl2 := bA.lt
      have c1 : wr.cell? ⟨g, 1, none⟩ = some (.slice ob p.code.length capb) := by rw [bA.cell]; rfl
      cases hfit : fitsN i.n
      · have p0 : wr.cell? ⟨g + 1, 0, none⟩ = some (.int .i64 0) ∧ wr.frozen? ⟨g + 1, 0, none⟩ = false := ⟨by rw [bB.cell]; rfl, bB.frozen 0⟩
        have p1 : wr.cell? ⟨g + 1, 1, none⟩ = some (.int .i64 0) ∧ wr.frozen? ⟨g + 1, 1, none⟩ = false := ⟨by rw [bB.cell]; rfl, bB.frozen 1⟩
        have Hf := Lib.hid hfit
        have hcase : i.n < -8192 ∨ 8191 < i.n := by
          simp only [fitsN, Bool.and_eq_false_iff, decide_eq_false_iff_not] at hfit
          omega
        clear hfit
        have Hq : Hid (putW p = ([], 3, ((j : Int)).toNat)) := Lib.hid (by
          unfold putW
          rw [Hh.out, Hmiss.out Hf.out]
          simp)
        by_cases hc0 : i.n < -8192
        · go_wp2
          exact bodyPost_ret (results_tc ((fault_put bB).alloc _) rfl _ rfl rfl Try.underlying47 rfl (by kernel_rfl)) rfl (ret_put Hq.out (by omega) (u32s_nil _) ((ext_fault X.out (by omega)).alloc _))
        · have hc1 : 8191 < i.n := by omega
          have hc0d : decide (i.n < -8192) = false := by simpa using hc0
          go_wp2
          exact bodyPost_ret (results_tc ((fault_put bB).alloc _) rfl _ rfl rfl Try.underlying47 rfl (by kernel_rfl)) rfl (ret_put Hq.out (by omega) (u32s_nil _) ((ext_fault X.out (by omega)).alloc _))
      · have Hf := Lib.hid hfit
        have hn0 : -8192 ≤ i.n ∧ i.n ≤ 8191 := by
          simpa [fitsN] using hfit
        clear hfit
        have hi := insOk_fits Hh.out Hin.out
        have hb0 := HE.out.size
        have hn1 : decide (i.n < -8192) = false := by simp; omega
        have hn2 : decide (8191 < i.n) = false := by simp; omega
        by_cases hneg : i.n < 0
        · go_wp2_with (at_builtin; refine wpList_append_own _ rfl _ _ 44 rfl w1.heap.size 71 i0 (.int .u32 0) 1 4 Try.underlying44 hi0 hz0 hz1 hz2 rfl (by decide) _ _ _ rfl ((Hown.out.alloc _).alloc _) ⟨wr.heap.size + 1, 0, none⟩ 1 1 [.int .u32 ((((i.op * 16 + i.a) * 16 + i.b) * 16 + i.c) * 16384 + (i.n + 16384))] rfl rfl ?c1 ?c2 ?c3 ?c4 ?c5 ?_)
          case c1 =>
            intro j u hj
            match j, hj with
            | 0, hj => simp at hj; subst hj; simp [Addr.add]
          case c2 => intro u hu; simp at hu; subst hu; rfl
          case c3 => unfold maxLen; omega
          case c4 => omega
          case c5 => simp; omega
          intro v' w3 hown' hgrow _
          have hv : (((i.op * 16 + i.a) * 16 + i.b) * 16 + i.c) * 16384 + (i.n + 16384) = wordI i := by unfold wordI; split <;> omega
          rw [hv] at hown'
          have Hw3 : Hid (w3.ownsRow w1.heap.size 71 1 v' (j + 1) (((p.code.take (j + 1)).map wordI).map (Value.int .u32))) := Lib.hid (by
            rw [Htk.out]
            simpa [List.map_take] using hown')
          have Hb3 := Lib.hid (Below.grown ((HE.out.alloc hb0 _).alloc (by simp; omega) _) hgrow (by simp; omega) (own_ge Hown.out))
          have Hall3 : Hid (∀ i ∈ p.code.take (j + 1), fitsW i = true) := Lib.hid (by
            rw [Htk.out]
            intro x hx
            simp only [List.mem_append, List.mem_singleton] at hx
            rcases hx with hx | rfl
            · exact Hall.out x hx
            · exact Hf.out)
          clear hown' hgrow hv
          go_wp2
          go_roundw
          case rel => exact ⟨j + 1, by omega, by go_num, Hw3.out, Hb3.out, Hall3.out⟩
          case measure => first | (simp [intOf]; done) | (simp [intOf]; omega)
        · have hneg' : 0 ≤ i.n := by omega
          have hnd : decide (i.n < 0) = false := by simp; omega
          clear hneg
          go_wp2_with (at_builtin; refine wpList_append_own _ rfl _ _ 44 rfl w1.heap.size 71 i0 (.int .u32 0) 1 4 Try.underlying44 hi0 hz0 hz1 hz2 rfl (by decide) _ _ _ rfl ((Hown.out.alloc _).alloc _) ⟨wr.heap.size + 1, 0, none⟩ 1 1 [.int .u32 ((((i.op * 16 + i.a) * 16 + i.b) * 16 + i.c) * 16384 + i.n)] rfl rfl ?d1 ?d2 ?d3 ?d4 ?d5 ?_)
          case d1 =>
            intro j u hj
            match j, hj with
            | 0, hj => simp at hj; subst hj; simp [Addr.add]
          case d2 => intro u hu; simp at hu; subst hu; rfl
          case d3 => unfold maxLen; omega
          case d4 => omega
          case d5 => simp; omega
          intro v' w3 hown' hgrow _
          have hv : (((i.op * 16 + i.a) * 16 + i.b) * 16 + i.c) * 16384 + i.n = wordI i := by unfold wordI; split <;> omega
          rw [hv] at hown'
          have Hw3 : Hid (w3.ownsRow w1.heap.size 71 1 v' (j + 1) (((p.code.take (j + 1)).map wordI).map (Value.int .u32))) := Lib.hid (by
            rw [Htk.out]
            simpa [List.map_take] using hown')
          have Hb3 := Lib.hid (Below.grown ((HE.out.alloc hb0 _).alloc (by simp; omega) _) hgrow (by simp; omega) (own_ge Hown.out))
          have Hall3 : Hid (∀ i ∈ p.code.take (j + 1), fitsW i = true) := Lib.hid (by
            rw [Htk.out]
            intro x hx
            simp only [List.mem_append, List.mem_singleton] at hx
            rcases hx with hx | rfl
            · exact Hall.out x hx
            · exact Hf.out)
          clear hown' hgrow hv
          go_wp2
          go_roundw
          case rel => exact ⟨j + 1, by omega, by go_num, Hw3.out, Hb3.out, Hall3.out⟩
          case measure => first | (simp [intOf]; done) | (simp [intOf]; omega)
    · have hje : j = p.code.length := by omega
      subst hje
      have c1 : wr.cell? ⟨g, 1, none⟩ = some (.slice ob p.code.length capb) := by rw [bA.cell]; rfl
      have p0 : wr.cell? ⟨g + 1, 0, none⟩ = some (.int .i64 0) ∧ wr.frozen? ⟨g + 1, 0, none⟩ = false := ⟨by rw [bB.cell]; rfl, bB.frozen 0⟩
      have p1 : wr.cell? ⟨g + 1, 1, none⟩ = some (.int .i64 0) ∧ wr.frozen? ⟨g + 1, 1, none⟩ = false := ⟨by rw [bB.cell]; rfl, bB.frozen 1⟩
      have Hq : Hid (putW p = (p.code.map wordI, 0, ((0 : Int)).toNat)) := Lib.hid (by
        have h := Hall.out
        rw [List.take_length] at h
        unfold putW
        rw [Hh.out, missW_none 0 h]
        rfl)
      have Hu : Hid (U32sAt ((wr.setCell ⟨g + 1, 0, none⟩ (.int .i64 0)).setCell ⟨g + 1, 1, none⟩ (.int .i64 0)) u4 (p.code.map wordI)) := Lib.hid (by
        have h := ownsRow_setCell_below (ownsRow_setCell_below Hown.out (a := ⟨g + 1, 0, none⟩) hg1 (.int .i64 0)) (a := ⟨g + 1, 1, none⟩) hg1 (.int .i64 0)
        rw [List.take_length] at h
        have hl : (p.code.map wordI).length = p.code.length := by simp
        refine u32s_own (base := w1.heap.size) (e := 71) (by rw [hl]; exact h) ?_
        intro x hx
        simp only [List.mem_map] at hx
        obtain ⟨i, hi, rfl⟩ := hx
        have hfit := Hall.out
        rw [List.take_length] at hfit
        obtain ⟨p1, p2, p3, p4⟩ := hard_parts Hh.out
        exact word_bd (ins_small (regsOk_len p1) (p4 i hi)) (hfit i hi))
      go_wp2
      exact bodyPost_ret (results_tc (v := u4) (fault_put bB) rfl _ rfl rfl Try.underlying47 rfl (by kernel_rfl)) rfl (ret_put Hq.out (by omega) Hu.out (ext_fault X.out (by omega)))
end Go.Proofs.Ytoaapneihcfieaa
