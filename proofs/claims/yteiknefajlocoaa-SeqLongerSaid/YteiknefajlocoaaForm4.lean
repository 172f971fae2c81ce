/- Walks of layout's look, May, Hard, Fits. -/
import Derived.Test.YteiknefajlocoaaForm3
namespace Go.Proofs.Yteiknefajlocoaa
open Go.ChangeShapes Go.WideShapes Go.ChangeAt Go.RowKit
set_option linter.unusedVariables false
set_option linter.unusedSimpArgs false

theorem ins_c (g : Nat) (oa : Option Addr) (cap : Nat) (ob : Option Addr) (capb : Nat) (R : Int) (ok : Bool) (p : LProg) (i : LIns) (hi : i.fits) (w : World) (b0 o0 : Nat) (hgb : g ≠ b0) (hR : Rows w oa b0 o0 p.regs.length 2 fun i => regCell (p.regs.getD i default)) (hreg : ok = true → ∀ r ∈ p.regs, 0 ≤ r.log ∧ r.log ≤ 6)
    (h0 : w.cell? ⟨g, 0, none⟩ = some (.slice oa p.regs.length cap)) (h1 : w.cell? ⟨g, 1, none⟩ = some (.slice ob p.code.length capb)) (h2 : w.cell? ⟨g, 2, none⟩ = some (.int .i64 R)) (h3 : w.cell? ⟨g, 3, none⟩ = some (.bool ok) ∧ w.frozen? ⟨g, 3, none⟩ = false) :
    Calls Try.prog 122 #[.pointer (some ⟨g, 0, none⟩), .agg #[.int .i64 i.op, .int .i64 i.a, .int .i64 i.b, .int .i64 i.c, .int .i64 i.n]] w fun e w' => e = .returned (.tuple #[]) ∧ Ext (w.setCell ⟨g, 3, none⟩ (.bool (ok && insOk p R i))) w' := by
  obtain ⟨op, a, b, c, n⟩ := i
  obtain ⟨fo, fa, fb, fc, fn⟩ := hi
  by_cases e1 : op = 1
  · subst e1; exact ins_set g oa cap ob capb R ok p a b c n fa fb fc fn w h0 h1 h2 h3
  by_cases e2 : op = 2
  · subst e2; exact ins_move g oa cap ob capb R ok p a b c n fa fb fc fn w h0 h1 h2 h3
  by_cases e3 : op = 3
  · subst e3; exact ins_load g oa cap ob capb R ok p a b c n fa fb fc fn w h0 h1 h2 h3
  by_cases e4 : op = 4
  · subst e4; exact ins_put g oa cap ob capb R ok p a b c n fa fb fc fn w h0 h1 h2 h3
  by_cases e5 : op = 5
  · subst e5; exact ins_loadk g oa cap ob capb R ok p a b c n fa fb fc fn w b0 o0 hgb hR hreg h0 h1 h2 h3
  by_cases e6 : op = 6
  · subst e6; exact ins_putk g oa cap ob capb R ok p a b c n fa fb fc fn w b0 o0 hgb hR hreg h0 h1 h2 h3
  by_cases e7 : op = 7
  · subst e7; exact ins_jump g oa cap ob capb R ok p a b c n fa fb fc fn w h0 h1 h2 h3
  by_cases e8 : op = 8
  · subst e8; exact ins_if g oa cap ob capb R ok p a b c n fa fb fc fn w h0 h1 h2 h3
  by_cases e9 : op = 9
  · subst e9; exact ins_halt g oa cap ob capb R ok p a b c n fa fb fc fn w h0 h1 h2 h3
  by_cases e10 : op = 10
  · subst e10; exact ins_add g oa cap ob capb R ok p a b c n fa fb fc fn w h0 h1 h2 h3
  by_cases e11 : op = 11
  · subst e11; exact ins_mask g oa cap ob capb R ok p a b c n fa fb fc fn w h0 h1 h2 h3
  by_cases e12 : op = 12
  · subst e12; exact ins_fence g oa cap ob capb R ok p a b c n fa fb fc fn w h0 h1 h2 h3
  exact ins_op g oa cap ob capb R ok p op a b c n fa fb fc fn w fo (by simpa using e1) (by simpa using e2) (by simpa using e3) (by simpa using e4) (by simpa using e5) (by simpa using e6) (by simpa using e7) (by simpa using e8) (by simpa using e9) (by simpa using e10) (by simpa using e11) (by simpa using e12) h0 h1 h2 h3

theorem index_code {oa : Option Addr} {n b o cap : Nat} (h : 0 < n → oa = some ⟨b, o, none⟩) (W : World) (i : Int) (h0 : 0 ≤ i) (h1 : i < n) :
    (Instr.indexAt 23 (.slice oa n cap) (.int .i64 i)).run Try.prog W = .ok (.pointer (some ⟨b, o + i.toNat * 5, none⟩)) W := by
  obtain rfl := h (by omega)
  have hs : (Try.prog.info? 70).map (·.size) = some 5 := by kernel_rfl
  simp [Instr.indexAt, run_underlying Try.underlying23, asIntOf, h0, h1]
  exact addr_add b o _
end Go.Proofs.Yteiknefajlocoaa
