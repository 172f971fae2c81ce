/- Walks of the reference's words: Get. -/
import Derived.Test.YtoaapneihcfieaaWord4
import Derived.Test.YtoaapneihcfieaaFormS2
namespace Go.Proofs.Ytoaapneihcfieaa
open Go.ChangeShapes Go.WideShapes Go.ChangeAt Go.RowKit
set_option linter.unusedVariables false
set_option linter.unusedSimpArgs false

set_option maxHeartbeats 4000000 in
theorem rGet_c (r : List LReg) (ws : List Int) (v u : Value) (w : World) (hr : RegsAt w v r) (hu : U32sAt w u ws) (hr2 : ws.length ≤ 1048576) :
    Calls Try.prog 36 #[v, u] w (GetPost (getW r ws) w) := by
  have HR := Lib.hid hr
  obtain ⟨hb, oa, cap, b, o, rfl, hc1, hc2, hrow⟩ := hr
  obtain ⟨hb2, ob, capb, b2, o2, rfl, hd1, hd2, hrow2⟩ := hu
  have hlen2 := len_bd hd1 hd2
  have hix := index_u32 (cap := capb) hrow2.at_
  have Hrow2 := Lib.hid hrow2
  obtain ⟨j0, hj0, hy0, hy1, hy2⟩ := info_parts infoIns
  clear hrow hrow2 hc1 hc2 hd1 hd2
  go_enter Try.func36, Try.ntmps36
  go_wp2_with fail
  obtain ⟨w1, k, hk, hw1, hx1, bA, bB⟩ := blocks2 w #[.slice none 0 0, .slice none 0 0] #[.int .i64 0, .int .i64 0] 38 47
  rw [hw1]
  have hks : w1.heap.size = w.heap.size + 1 + 1 := by rw [← hw1]; simp
  have X1 := Lib.hid hx1
  subst hk
  clear hw1 hx1
  obtain ⟨W, g, hg, hW, hx, bP⟩ := block1 w1 #[.slice oa r.length cap, .slice none 0 0] 38
  rw [hW]
  have HG := Lib.hid hg
  rw [hks] at hg
  rw [hg]
  have hgs : w.heap.size + 1 < g := by omega
  have X := Lib.hid hx
  clear hW hg hx hks
  go_loopw [7] (fun i wr => ∃ (j : Nat) (vc : Value), j ≤ ws.length ∧ i = .int .i64 j ∧ Blk wr g 38 #[.slice oa r.length cap, vc] ∧ wr.ownsRow (g + 1) 40 5 vc j (((ws.take j).map insW).flatMap insCells) ∧ Ext w1 wr) (fun i _ => ws.length - (intOf i).toNat)
  case atStart => exact ⟨0, _, by omega, rfl, bP, World.ownsRow_nil _ _ _ _, X.out⟩
  case round =>
    obtain ⟨j, vc, hj, rfl, bP, hown, hE⟩ := hrel
    obtain ⟨oc, cc, rfl⟩ := own_slice hown
    have XE := Lib.hid hE
    have Hown := Lib.hid hown
    clear hE hown
    by_cases hlt : j < ws.length
    · have e0 := ((Hrow2.out.ext X1.out).ext XE.out).one j hlt
      obtain ⟨hx0, hx1⟩ := hb2 _ (getD_mem hlt)
      have Htk : Hid (ws.take (j + 1) = ws.take j ++ [ws.getD j default]) := Lib.hid (by rw [List.take_succ_eq_append_getElem hlt]; simp [hlt])
      generalize ws.getD j default = x at *
      have hgl := bP.lt
      have hgw : g + 1 ≤ wr.heap.size := hgl
      have c1 : wr.cell? ⟨g, 1, none⟩ = some (.slice oc j cc) := by rw [bP.cell]; rfl
      by_cases hn : 8192 ≤ x % 16384
      · have Hlit : Hid (insCells (insW x) = [.int .i64 (x / 16384 / 16 / 16 / 16), .int .i64 (x / 16384 / 16 / 16 % 16), .int .i64 (x / 16384 / 16 % 16), .int .i64 (x / 16384 % 16), .int .i64 (x % 16384 - 16384)]) := Lib.hid (by unfold insCells insW; rw [if_pos hn])
        go_wp2_with (at_builtin; refine wpList_append_src _ rfl _ _ 36 rfl (g + 1) 40 j0 _ 5 40 Try.underlying36 hj0 hy0 hy1 hy2 rfl (by decide) _ _ _ rfl (own_alloc (own_alloc Hown.out)) (some ⟨wr.heap.size + 1, 0, none⟩) 1 1 (insCells (insW x)) rfl ?b1 ?b3 ?b4 ?b5 ?_)
        case b1 =>
          have hb := Blk.new (wr.alloc (.cells #[.int .i64 (x / 16384 / 16 / 16 / 16), .int .i64 (x / 16384 / 16 / 16 % 16), .int .i64 (x / 16384 / 16 % 16), .int .i64 (x / 16384 % 16), .int .i64 (x % 16384 - 16384)] 40)) 40 #[.int .i64 (x / 16384 / 16 / 16 / 16), .int .i64 (x / 16384 / 16 / 16 % 16), .int .i64 (x / 16384 / 16 % 16), .int .i64 (x / 16384 % 16), .int .i64 (x % 16384 - 16384)]
          simp only [World.size_alloc] at hb
          have h := src_new (size := 5) hb rfl (by simp [Value.oneCell'])
          rw [Hlit.out]
          exact h
        case b3 => unfold maxLen; omega
        case b4 => omega
        case b5 => first | omega | (simp; omega)
        intro vc w6 hown hgrow hat
        clear hat
        obtain ⟨oc', cc', rfl⟩ := own_slice hown
        have XE := Lib.hid (((XE.out.alloc _).alloc _).grown hgrow (fun k hk => by have := own_ge Hown.out k hk; have := HG.out; omega))
        have bP := ((bP.alloc _).alloc _).grown hgrow (own_ne Hown.out (bP) (by decide))
        have p1 : w6.cell? ⟨g, 1, none⟩ = some (.slice oc j cc) ∧ w6.frozen? ⟨g, 1, none⟩ = false := ⟨by rw [bP.cell]; rfl, bP.frozen 1⟩
        have Hown : Hid (w6.ownsRow (g + 1) 40 5 (.slice oc' (j + 1) cc') (j + 1) (((ws.take (j + 1)).map insW).flatMap insCells)) := Lib.hid (by
          rw [Htk.out]
          simpa [List.map_take] using hown)
        clear hown hgrow c1 e0
        go_wp2
        go_roundw
        case rel => exact ⟨j + 1, _, by omega, by go_num, bP.set_ 1 _, ownsRow_setCell_below Hown.out (a := ⟨g, 1, none⟩) (by simp) _, XE.out.setCell (by have := HG.out; simp; omega) _⟩
        case measure => first | (simp [intOf]; done) | (simp [intOf]; omega)
      · have hn' : decide (8192 ≤ x % 16384) = false := by simpa using hn
        have Hlit : Hid (insCells (insW x) = [.int .i64 (x / 16384 / 16 / 16 / 16), .int .i64 (x / 16384 / 16 / 16 % 16), .int .i64 (x / 16384 / 16 % 16), .int .i64 (x / 16384 % 16), .int .i64 (x % 16384)]) := Lib.hid (by unfold insCells insW; rw [if_neg hn])
        go_wp2_with (at_builtin; refine wpList_append_src _ rfl _ _ 36 rfl (g + 1) 40 j0 _ 5 40 Try.underlying36 hj0 hy0 hy1 hy2 rfl (by decide) _ _ _ rfl (own_alloc (own_alloc Hown.out)) (some ⟨wr.heap.size + 1, 0, none⟩) 1 1 (insCells (insW x)) rfl ?d1 ?d3 ?d4 ?d5 ?_)
        case d1 =>
          have hb := Blk.new (wr.alloc (.cells #[.int .i64 (x / 16384 / 16 / 16 / 16), .int .i64 (x / 16384 / 16 / 16 % 16), .int .i64 (x / 16384 / 16 % 16), .int .i64 (x / 16384 % 16), .int .i64 (x % 16384)] 40)) 40 #[.int .i64 (x / 16384 / 16 / 16 / 16), .int .i64 (x / 16384 / 16 / 16 % 16), .int .i64 (x / 16384 / 16 % 16), .int .i64 (x / 16384 % 16), .int .i64 (x % 16384)]
          simp only [World.size_alloc] at hb
          have h := src_new (size := 5) hb rfl (by simp [Value.oneCell'])
          rw [Hlit.out]
          exact h
        case d3 => unfold maxLen; omega
        case d4 => omega
        case d5 => first | omega | (simp; omega)
        intro vc w6 hown hgrow hat
        clear hat
        obtain ⟨oc', cc', rfl⟩ := own_slice hown
        have XE := Lib.hid (((XE.out.alloc _).alloc _).grown hgrow (fun k hk => by have := own_ge Hown.out k hk; have := HG.out; omega))
        have bP := ((bP.alloc _).alloc _).grown hgrow (own_ne Hown.out (bP) (by decide))
        have p1 : w6.cell? ⟨g, 1, none⟩ = some (.slice oc j cc) ∧ w6.frozen? ⟨g, 1, none⟩ = false := ⟨by rw [bP.cell]; rfl, bP.frozen 1⟩
        have Hown : Hid (w6.ownsRow (g + 1) 40 5 (.slice oc' (j + 1) cc') (j + 1) (((ws.take (j + 1)).map insW).flatMap insCells)) := Lib.hid (by
          rw [Htk.out]
          simpa [List.map_take] using hown)
        clear hown hgrow c1 e0
        go_wp2
        go_roundw
        case rel => exact ⟨j + 1, _, by omega, by go_num, bP.set_ 1 _, ownsRow_setCell_below Hown.out (a := ⟨g, 1, none⟩) (by simp) _, XE.out.setCell (by have := HG.out; simp; omega) _⟩
        case measure => first | (simp [intOf]; done) | (simp [intOf]; omega)
    · have hje : j = ws.length := by omega
      subst hje
      have c0 : wr.cell? ⟨g, 0, none⟩ = some (.slice oa r.length cap) := by rw [bP.cell]; rfl
      have c1 : wr.cell? ⟨g, 1, none⟩ = some (.slice oc ws.length cc) := by rw [bP.cell]; rfl
      have Hcc : Hid (wr.ownsRow (g + 1) 40 5 (.slice oc ws.length cc) (ws.map insW).length ((ws.map insW).flatMap insCells)) := Lib.hid (by
        have h := Hown.out
        rw [List.take_length] at h
        simpa using h)
      have hfit : ∀ i ∈ ws.map insW, i.fits := by
        intro i hi
        simp only [List.mem_map] at hi
        obtain ⟨x, hx, rfl⟩ := hi
        exact ins_fits64 x (hb2 x hx).1 (hb2 x hx).2
      have XX := Lib.hid (X1.out.trans XE.out)
      have HP : Hid (ProgAt wr (.agg #[.slice oa r.length cap, .slice oc ws.length cc]) (progW r ws)) := Lib.hid ⟨_, _, rfl, HR.out.ext XX.out, code_own Hcc.out hfit⟩
      have bA := bA.ext XE.out
      have bB := bB.ext XE.out
      have Hfit := Lib.hid hfit
      clear hfit Hown XE X
      go_wp2_with fail
      have C := rHard_c (progW r ws) _ wr HP.out
      (with_reducible refine C.mono ?_)
      clear C HP
      rintro e w2 ⟨rfl, h1⟩
      have c0 := h1.kept c0
      have c1 := h1.kept c1
      have Hcc := Lib.hid (own_ext Hcc.out h1)
      have bA := bA.ext h1
      have bB := bB.ext h1
      have XX := Lib.hid (XX.out.trans h1)
      have q0 : w2.cell? ⟨w.heap.size, 0, none⟩ = some (.slice none 0 0) ∧ w2.frozen? ⟨w.heap.size, 0, none⟩ = false := ⟨by rw [bA.cell]; rfl, bA.frozen 0⟩
      have q1 : w2.cell? ⟨w.heap.size, 1, none⟩ = some (.slice none 0 0) ∧ w2.frozen? ⟨w.heap.size, 1, none⟩ = false := ⟨by rw [bA.cell]; rfl, bA.frozen 1⟩
      have p0 : w2.cell? ⟨w.heap.size + 1, 0, none⟩ = some (.int .i64 0) ∧ w2.frozen? ⟨w.heap.size + 1, 0, none⟩ = false := ⟨by rw [bB.cell]; rfl, bB.frozen 0⟩
      have p1 : w2.cell? ⟨w.heap.size + 1, 1, none⟩ = some (.int .i64 0) ∧ w2.frozen? ⟨w.heap.size + 1, 1, none⟩ = false := ⟨by rw [bB.cell]; rfl, bB.frozen 1⟩
      clear h1
      cases hh : hardOk (progW r ws)
      · have Hq : Hid (getW r ws = (⟨[], []⟩, 2)) := Lib.hid (by unfold getW; rw [hh]; rfl)
        clear hh
        go_wp2
        exact bodyPost_ret (results_cc (get_put1 bA bB).1 (get_put1 bA bB).2 rfl _ rfl rfl Try.underlying38 rfl (by kernel_rfl) Try.underlying47 rfl (by kernel_rfl)) rfl
          ⟨_, by rw [Hq.out], by rw [Hq.out]; exact prog_nil _, get_ext XX.out⟩
      · have Hq : Hid (getW r ws = (progW r ws, 0)) := Lib.hid (by unfold getW; rw [hh]; rfl)
        clear hh
        go_wp2
        exact bodyPost_ret (results_cc (get_put1 bA bB).1 (get_put1 bA bB).2 rfl _ rfl rfl Try.underlying38 rfl (by kernel_rfl) Try.underlying47 rfl (by kernel_rfl)) rfl
          ⟨_, by rw [Hq.out], by
            rw [Hq.out]
            refine ⟨_, _, rfl, HR.out.ext (get_ext XX.out), code_own (own_get Hcc.out bA bB (by decide) (by decide)) Hfit.out⟩, get_ext XX.out⟩
end Go.Proofs.Ytoaapneihcfieaa
