/- The walk of WordBack. -/
import Derived.Test.YtoaapneihcfieaaWord4
namespace Go.Proofs.Ytoaapneihcfieaa
open Go.ChangeShapes Go.WideShapes Go.ChangeAt Go.RowKit
set_option linter.unusedVariables false
set_option linter.unusedSimpArgs false

theorem put_bad {p : LProg} (h : (putW p).2.1 ≠ 0) : (putW p).1 = [] ∧ ((putW p).2.1 != 0) = true := by
  refine ⟨?_, by simpa using h⟩
  unfold putW at h ⊢
  split
  · rfl
  · rename_i h1
    rw [if_neg h1] at h
    split
    · rfl
    · rename_i h2
      rw [h2] at h
      exact absurd rfl h
theorem u32s_sl {w : World} {v : Value} {l : List Int} (h : U32sAt w v l) : ∃ oa cap, v = .slice oa l.length cap := by
  obtain ⟨-, oa, cap, b, o, rfl, -⟩ := h
  exact ⟨_, _, rfl⟩
set_option maxHeartbeats 2000000 in
theorem wordBack_walk {p : LProg} {v : Value} {w : World} (hp : ProgAt w v p) :
    Calls Try.prog 13 #[v] w fun e w' => e = .returned (.bool true) ∧ Ext w w' := by
  have HP := Lib.hid hp
  obtain ⟨o1, n1, s1, o2, n2, s2, rfl⟩ := prog_sl hp
  have HR : Hid (RegsAt w (.slice o1 n1 s1) p.regs) := Lib.hid (by
    obtain ⟨v1, v2, hv, h1, h2⟩ := hp
    simp only [Value.agg.injEq, Array.mk.injEq, List.cons.injEq, and_true] at hv
    obtain ⟨rfl, rfl⟩ := hv
    exact h1)
  have hn2 : Hid (n2 = p.code.length) := Lib.hid (by
    obtain ⟨v1, v2, hv, h1, ⟨-, oa, cap, b, o, rfl, -⟩⟩ := hp
    simp only [Value.agg.injEq, Array.mk.injEq, List.cons.injEq, and_true, Value.slice.injEq] at hv
    exact hv.2.2.1)
  clear hp
  go_enter Try.func13, Try.ntmps13
  go_wp2_with fail
  obtain ⟨W, g, hg, hW, hx, bA⟩ := block1 w #[.slice o1 n1 s1, .slice o2 n2 s2] 38
  rw [hW, hg]
  have X := Lib.hid hx
  clear hW hg hx
  have C := wPut_c p _ W (HP.out.ext X.out)
  (with_reducible refine C.mono ?_)
  clear C
  rintro e w1 ⟨u, rfl, hu, hx⟩
  have X := Lib.hid (X.out.trans hx)
  have bA := bA.ext hx
  clear hx
  by_cases hc : (putW p).2.1 = 0
  · have Hc := Lib.hid hc
    obtain ⟨hh, hq, hpw, hall⟩ := get_put hc
    have Hb := Lib.hid (get_back hc)
    have hs : p.code.length ≤ 8000 ∧ 1 ≤ p.code.length ∧ p.regs.length ≤ 6 := by
      obtain ⟨p1, p2, p3, p4⟩ := hard_parts hh
      exact ⟨p3, p2, regsOk_len p1⟩
    have hlq : (putW p).1.length = p.code.length := by rw [hq]; simp
    obtain ⟨oa, cap, rfl⟩ := u32s_sl hu
    have Hu := Lib.hid hu
    have hat : (putW p).2 = (0, (0 : Nat)) := by
      unfold putW at hc ⊢
      split
      · rename_i h1; rw [if_pos h1] at hc; simp at hc
      · rename_i h1
        rw [if_neg h1] at hc
        split
        · rename_i h2; rw [h2] at hc; simp at hc
        · rfl
    rw [hlq] at Hu
    rw [hlq, hat]
    have Hlq := Lib.hid hlq
    have Hat := Lib.hid hat
    obtain ⟨hs0, hs1, hs2⟩ := hs
    have hn : n2 = p.code.length := hn2.out
    subst hn
    clear hc hh hq hpw hall hat hlq hu
    have a0 : w1.cell? ⟨g, 0, none⟩ = some (.slice o1 n1 s1) := by rw [bA.cell]; rfl
    have a1 : w1.cell? ⟨g, 1, none⟩ = some (.slice o2 p.code.length s2) := by rw [bA.cell]; rfl
    have hgl := bA.lt
    go_wp2_with fail
    obtain ⟨w2, k, hk, hW, hx, bF⟩ := block1 w1 #[.int .i64 0, .int .i64 0] 47
    rw [hW, hk]
    have X := Lib.hid (X.out.trans hx)
    have bA := bA.ext hx
    have Hu := Lib.hid (Hu.out.ext hx)
    clear hW hk hx a0 a1
    have C := wGet_c p.regs (putW p).1 _ _ w2 (HR.out.ext X.out) Hu.out (by omega) (by rw [Hlq.out]; omega)
    rw [Hb.out] at C
    (with_reducible refine C.mono ?_)
    clear C
    rintro e w3 ⟨y, rfl, hp3, hx⟩
    obtain ⟨o3, n3, s3, o4, n4, s4, rfl⟩ := prog_sl hp3
    have HQ := Lib.hid hp3
    have X := Lib.hid (X.out.trans hx)
    have bA := bA.ext hx
    have bF := bF.ext hx
    have Hu := Lib.hid (Hu.out.ext hx)
    clear hx hp3
    go_wp2_with fail
    obtain ⟨w4, m, hm, hW, hx, bQ, bG⟩ := blocks2 w3 #[.slice o3 n3 s3, .slice o4 n4 s4] #[.int .i64 0, .int .i64 0] 38 47
    rw [hW, hm]
    have X := Lib.hid (X.out.trans hx)
    have bA := bA.ext hx
    have bF := bF.ext hx
    have Hu := Lib.hid (Hu.out.ext hx)
    have HQ := Lib.hid (HQ.out.ext hx)
    clear hW hm hx
    have C := wPut_c p _ w4 HQ.out
    (with_reducible refine C.mono ?_)
    clear C
    rintro e w5 ⟨u5, rfl, hu5, hx⟩
    obtain ⟨oc, cc, rfl⟩ := u32s_sl hu5
    have Hu5 := Lib.hid hu5
    have X := Lib.hid (X.out.trans hx)
    have bA := bA.ext hx
    have bF := bF.ext hx
    have bQ := bQ.ext hx
    have bG := bG.ext hx
    have Hu := Lib.hid (Hu.out.ext hx)
    have HQ := Lib.hid (HQ.out.ext hx)
    clear hx hu5
    rw [Hlq.out] at Hu5
    rw [Hlq.out, Hat.out]
    have a0 : w5.cell? ⟨g, 0, none⟩ = some (.slice o1 n1 s1) := by rw [bA.cell]; rfl
    have a1 : w5.cell? ⟨g, 1, none⟩ = some (.slice o2 p.code.length s2) := by rw [bA.cell]; rfl
    have q0 : w5.cell? ⟨m, 0, none⟩ = some (.slice o3 n3 s3) := by rw [bQ.cell]; rfl
    have q1 : w5.cell? ⟨m, 1, none⟩ = some (.slice o4 n4 s4) := by rw [bQ.cell]; rfl
    have g0 : w5.cell? ⟨m + 1, 0, none⟩ = some (.int .i64 0) := by rw [bG.cell]; rfl
    have hgl := bA.lt
    have hml := bG.lt
    have hml2 := bQ.lt
    go_wp2_with fail
    have hx6 : Ext w5 (w5.alloc (.cells #[.int .i64 0, .int .i64 0] 47)) := (Ext.refl _).alloc _
    have C := rSame_c p _ _ _ (HP.out.ext (X.out.trans hx6)) (HQ.out.ext hx6)
    (with_reducible refine C.mono ?_)
    clear C
    rintro e w6 ⟨rfl, hx⟩
    have X := Lib.hid (X.out.trans (hx6.trans hx))
    have Hu := Lib.hid (Hu.out.ext (hx6.trans hx))
    have Hu5 := Lib.hid (Hu5.out.ext (hx6.trans hx))
    have a1 := (hx6.trans hx).kept a1
    clear hx hx6 a0 q0 q1 g0
    go_wp2_with fail
    have C := rWordsEq_c (putW p).1 _ _ w6 Hu.out Hu5.out
    (with_reducible refine C.mono ?_)
    clear C
    rintro e w7 ⟨rfl, hx⟩
    have X := Lib.hid (X.out.trans hx)
    have a1 := hx.kept a1
    clear hx
    have hpos : 0 < p.code.length := hs1
    have hbig : (p.code.length : Int) ≤ 9223372036854775807 := by omega
    go_wp2
    go_ret
    refine ⟨?_, X.out⟩
    first | rfl | (go_simp; done) | skip
  · obtain ⟨h1, h2⟩ := put_bad hc
    have Hc := Lib.hid hc
    have Hu := Lib.hid hu
    obtain ⟨oa, cap, rfl⟩ := u32s_sl hu
    have hl : (putW p).1.length = 0 := by rw [h1]; rfl
    rw [hl]
    clear hc hu h1 hl
    go_wp2
    go_ret
    exact ⟨rfl, X.out.alloc _⟩
end Go.Proofs.Ytoaapneihcfieaa
