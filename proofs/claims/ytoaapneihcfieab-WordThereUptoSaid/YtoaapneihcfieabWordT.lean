/- The walk of WordThere. -/
import Derived.Test.YtoaapneihcfieabWord4
namespace Go.Proofs.Ytoaapneihcfieab
open Go.ChangeShapes Go.WideShapes Go.ChangeAt Go.RowKit
set_option linter.unusedVariables false
set_option linter.unusedSimpArgs false

theorem u32s_sl' {w : World} {v : Value} {l : List Int} (h : U32sAt w v l) : ∃ oa cap, v = .slice oa l.length cap := by
  obtain ⟨-, oa, cap, b, o, rfl, -⟩ := h
  exact ⟨_, _, rfl⟩
theorem get_bad {r : List LReg} {ws : List Int} (h : (getW r ws).2 ≠ 0) : getW r ws = (⟨[], []⟩, 2) := by
  unfold getW at h ⊢
  split
  · rename_i h1; rw [if_pos h1] at h; exact absurd rfl h
  · rfl
theorem prog_sl2 {w : World} {v : Value} {p : LProg} (h : ProgAt w v p) : ∃ a c b d, v = .agg #[.slice a p.regs.length c, .slice b p.code.length d] := by
  obtain ⟨v1, v2, rfl, ⟨-, oa, cap, b, o, rfl, -⟩, ⟨-, ob, capb, b2, o2, rfl, -⟩⟩ := h
  exact ⟨_, _, _, _, rfl⟩
set_option maxHeartbeats 2000000 in
theorem wordThere_walk {r : List LReg} {ws : List Int} {v u : Value} {w : World} (hr : RegsAt w v r) (hu : U32sAt w u ws) (h1 : r.length ≤ 1048576) (h2 : ws.length ≤ 1048576) :
    Calls Try.prog 3 #[v, u] w fun e w' => e = .returned (.bool true) ∧ Ext w w' := by
  have HR := Lib.hid hr
  have HU := Lib.hid hu
  have H1 := Lib.hid h1
  have H2 := Lib.hid h2
  clear hr hu h1 h2
  go_enter Try.func3, Try.ntmps3
  go_wp2_with fail
  have C := wGet_c r ws v u w HR.out HU.out H1.out H2.out
  (with_reducible refine C.mono ?_)
  clear C
  rintro e w1 ⟨x, rfl, hp, hx⟩
  by_cases hc : (getW r ws).2 = 0
  · obtain ⟨hq, hput⟩ := put_there hc
    have Hput := Lib.hid hput
    have hone : 1 ≤ (progW r ws).code.length := by
      unfold getW at hc
      split at hc
      · rename_i hh; exact (hard_parts hh).2.1
      · simp at hc
    have hlen : (progW r ws).code.length = ws.length := by simp [progW]
    rw [hlen] at hone
    rw [hq] at hp
    rw [hc]
    obtain ⟨o1, s1, o2, s2, rfl⟩ := prog_sl2 hp
    have HP := Lib.hid hp
    have X := Lib.hid hx
    clear hp hx hc hq hput hlen
    generalize (progW r ws).regs.length = n1 at *
    generalize (progW r ws).code.length = n2 at *
    go_wp2_with fail
    obtain ⟨w2, g, hg, hW, hx, bA, bB⟩ := blocks2 w1 #[.slice o1 n1 s1, .slice o2 n2 s2] #[.int .i64 0, .int .i64 0] 26 29
    rw [hW]
    have X := Lib.hid (X.out.trans hx)
    have HP := Lib.hid (HP.out.ext hx)
    clear hW hg hx bA bB
    have C := wPut_c (progW r ws) _ w2 HP.out
    rw [Hput.out] at C
    (with_reducible refine C.mono ?_)
    clear C
    rintro e w3 ⟨y, rfl, hy, hx⟩
    obtain ⟨oa, cap, rfl⟩ := u32s_sl' hy
    have HY := Lib.hid hy
    have X := Lib.hid (X.out.trans hx)
    clear hy hx
    go_wp2_with fail
    have hx : Ext w3 (w3.alloc (.cells #[.int .i64 0, .int .i64 0] 29)) := (Ext.refl _).alloc _
    have C := rWordsEq_c ws _ _ _ (HY.out.ext hx) (HU.out.ext (X.out.trans hx))
    (with_reducible refine C.mono ?_)
    clear C
    rintro e w4 ⟨rfl, hx4⟩
    have X := Lib.hid (X.out.trans (hx.trans hx4))
    clear hx hx4
    have hpos : 0 < ws.length := hone
    have hbig : (ws.length : Int) ≤ 9223372036854775807 := by have := H2.out; omega
    go_wp2
    go_ret
    exact ⟨rfl, X.out⟩
  · have hz := get_bad hc
    rw [hz] at hp ⊢
    obtain ⟨o1, s1, o2, s2, rfl⟩ := prog_sl2 hp
    have X := Lib.hid hx
    clear hp hx hc hz
    go_wp2
    go_ret
    exact ⟨rfl, (X.out.alloc _).alloc _⟩
end Go.Proofs.Ytoaapneihcfieab
