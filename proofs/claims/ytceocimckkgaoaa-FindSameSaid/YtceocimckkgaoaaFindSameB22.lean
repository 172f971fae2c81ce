/- Laid together from: Seq2, Play1, Play2, Play3, Play4, Seq3, Seq4, Seq5. -/
import Derived.Test.YtceocimckkgaoaaFindSameB21
import Derived.Test.YtceocimckkgaoaaFindSameB9

namespace Go.Proofs.Ytceocimckkgaoaa
open Go.ChangeShapes Go.WideShapes Go.ChangeAt Go.RowKit
set_option linter.unusedVariables false
set_option linter.unusedSimpArgs false
theorem Q20 (g : Nat) (W : World) (i : Int) (h0 : 0 ≤ i) (h1 : i < 10) :
  (Instr.indexAt 56 (.pointer (some ⟨g, 7, none⟩)) (.int .i64 i)).run Try.prog W = .ok (.pointer (some ⟨g, 7 + i.toNat, none⟩)) W := by
 have hs : (Try.prog.info? 2).map (·.size) = some 1 := by kernel_rfl
 simp [Instr.indexAt, run_underlying Try.underlying56, asIntOf, Instr.sureAddr, h0, h1]
 exact Q2m g 7 _
set_option maxHeartbeats 2000000 in
theorem Q31 {B g : Nat} {vR vC vM vB vS vW : Value} {bases : List Int} {M : Mach} (w : World) (h : MSt w B g vR vC vM vB vS vW bases M) (kind a b : Int) (hl : M.seen.length ≤ 1000000) :
  Calls Try.prog 34 #[.pointer (some ⟨g, 0, none⟩), .int .i64 kind, .int .i64 a, .int .i64 b] w fun e w' => e = .returned (.tuple #[]) ∧ Q5i w w' B g vR vC vM vB vS vW bases { M with seen := M.seen ++ [⟨kind, a, b⟩] } := by
 obtain ⟨-, -, -, -, -, g5, -⟩ := h.cells
 obtain ⟨i0', hi0', hz0', hz1', hz2'⟩ := info_parts Qd1
 have hgl := h.box.lt
 have P := Lib.hid h
 obtain ⟨ov, ovc, rfl⟩ := Q14 h.sn
 clear h
 go_enter Try.func34, Try.ntmps34
 go_wp2_with (at_builtin; refine Q3f _ rfl _ _ 32 rfl B 45 i0' _ 3 24 Try.underlying32 hi0' hz0' hz1' hz2' rfl (by decide) _ _ _ rfl (Q62 P.out.sn) (some ⟨w.heap.size, 0, none⟩) 1 1 (Q2s ⟨kind, a, b⟩) rfl ?c1 ?c3 ?c4 ?c5 ?_)
 case c1 => exact Q4t (size := 3) (Blk.new w 45 #[.int .i64 kind, .int .i64 a, .int .i64 b]) rfl (by simp [Value.oneCell'])
 case c3 => unfold maxLen; omega
 case c4 => omega
 case c5 => have := P.out.size; simp; omega
 intro vS' w3 hown hgrow hat
 obtain ⟨ow, owc, rfl⟩ := Q14 hown
 have hx := (Ext.refl w).alloc (.cells #[.int .i64 kind, .int .i64 a, .int .i64 b] 45)
 have P1 := P.out.ext hx
 have p5 : w3.cell? ⟨g, 5, none⟩ = some (.slice ov M.seen.length ovc) ∧ w3.frozen? ⟨g, 5, none⟩ = false := by
  have hb := P1.box.grown hgrow P1.gs
  exact ⟨by rw [hb.cell]; simp [Q05], hb.frozen 5⟩
 have P2 := Lib.hid (P1.show_ (s := M.seen ++ [⟨kind, a, b⟩]) (vS' := .slice ow (M.seen.length + 1) owc) hgrow (by simpa using hown))
 have HT : Hid (Turn (fun j => j = g ∨ (Value.slice ov M.seen.length ovc).ownBlock = some j) w (w3.setCell ⟨g, 5, none⟩ (.slice ow (M.seen.length + 1) owc))) := Lib.hid
  (((Turn.ofExt hx).trans (Turn.grown hgrow) (fun j _ e => .inr e)).trans (Turn.set _ _ _) (fun j _ e => .inl e))
 have Hat : Hid (∀ j, (Value.slice ow (M.seen.length + 1) owc).ownBlock = some j → (Value.slice ov M.seen.length ovc).ownBlock = some j ∨ w.heap.size ≤ j) := Lib.hid (by
  intro j hj
  rcases hat with hat | hat
  ·rw [hat] at hj; exact .inl hj
  ·rw [hat] at hj
   simp only [Option.some.injEq] at hj
   have := hx.size
   exact .inr (by omega))
 clear hown hgrow hat hx P1 g5
 go_wp2
 refine bodyPost_end (results_none rfl _ _ _) rfl ?_
 exact ⟨rfl, _, P2.out, HT.out, Hat.out⟩
theorem Q5c {B g : Nat} {vR vC vM vB vS vW : Value} {bases : List Int} {M : Mach} (w : World) (h : MSt w B g vR vC vM vB vS vW bases M) (i : LIns) (hb : okIn 10 i.b = true) :
  Calls Try.prog 56 #[.pointer (some ⟨g, 0, none⟩), insV i] w fun e w' => e = .returned (.int .i64 (Q1n M.regs i)) ∧ Ext w w' := by
 obtain ⟨rb, -⟩ := h.reg hb
 obtain ⟨op, a, b, c, n⟩ := i
 simp only at hb rb
 obtain ⟨b0, b1⟩ := Q0w.1 hb
 have hgl := h.box.lt
 unfold insV
 simp only
 clear h
 by_cases h5 : op = 5
 ·subst h5
  go_enter Try.func56, Try.ntmps56
  go_wp2
  go_ret
  exact ⟨Q2b (by simp [Q1n]), (Ext.refl _).alloc _⟩
 by_cases h6 : op = 6
 ·subst h6
  go_enter Try.func56, Try.ntmps56
  go_wp2
  go_ret
  exact ⟨Q2b (by simp [Q1n]), (Ext.refl _).alloc _⟩
 have Hv : Hid (Q1n M.regs ⟨op, a, b, c, n⟩ = wrap64 (rg M.regs b + n)) := Lib.hid (by unfold Q1n; rw [if_neg (by simp only; omega)])
 have e5 : (op == 5) = false := by simpa using h5
 have e6 : (op == 6) = false := by simpa using h6
 have hix := Q20
 clear h5 h6
 go_enter Try.func56, Try.ntmps56
 go_upto_region 3 with fail
 obtain ⟨w0, e, he, hW, hs0, hx0, c0, c1, c2, c3, c4⟩ := new5 w 75 (.int .i64 op) (.int .i64 a) (.int .i64 b) (.int .i64 c) (.int .i64 n)
 rw [hW, he]
 have k0 : ∀ W, Ext w0 W → W.cell? ⟨e, 2, none⟩ = some (.int .i64 b) := fun _ h => h.kept c2
 have k1 : ∀ W, Ext w0 W → W.cell? ⟨e, 4, none⟩ = some (.int .i64 n) := fun _ h => h.kept c4
 have k2 : ∀ W, Ext w0 W → W.cell? ⟨g, 7 + b.toNat, none⟩ = some (.int .i64 (rg M.regs b)) := fun _ h => h.kept (hx0.kept rb)
 have X := Lib.hid hx0
 clear hW he hs0 hx0 c0 c1 c2 c3 c4 rb
 refine Q0t 12 (by kernel_rfl) (by kernel_rfl) ?_
 simp only [List.take_succ_cons, List.take_zero, List.drop_succ_cons, List.drop_zero]
 repeat (first | (refine Q0h ?_ ?_ (fun wc hE => ?_) ?_; (decide); rfl; (focus (go_simp; done)); go_simp) | (refine Q0b ?_ ?_ ?_; (decide); (first | rfl | (focus (go_simp; done))); apply Exists.intro; refine ⟨fun wc hE => ?_, ?_⟩; (go_simp; exact rfl); go_simp) | (refine Q0i ?_ ?_ ?_; (decide); (first | rfl | (focus (go_simp; done))); apply Exists.intro; refine ⟨fun wc hE => ?_, ?_⟩; (go_simp; (first | fail)); go_simp) | (refine Q0f ?_ ?_ ?_; (decide); (focus (go_simp; done)); go_simp))
 refine Q0g ?_
 intro wx hx
 have X := Lib.hid (X.out.trans hx)
 clear hx k0 k1 k2
 go_wp2
 go_ret
 exact ⟨Q2b (by rw [Hv.out, IntKind.wrap_i64]; unfold wrap64; rfl), X.out⟩
theorem Q60 (i : LIns) (w : World) :
  Calls Try.prog 36 #[insV i] w fun e w' => e = .returned (.bool (Q0x i)) ∧ Ext w w' := by
 obtain ⟨op, a, b, c, n⟩ := i
 unfold insV
 simp only
 by_cases h1 : op = 4
 ·subst h1
  go_enter Try.func36, Try.ntmps36
  go_wp2
  go_ret
  exact ⟨Q23 (by simp [Q0x]), (Ext.refl _).alloc _⟩
 by_cases h2 : op = 6
 ·subst h2
  go_enter Try.func36, Try.ntmps36
  go_wp2
  go_ret
  exact ⟨Q23 (by simp [Q0x]), (Ext.refl _).alloc _⟩
 have e1 : (op == 4) = false := by simpa using h1
 have e2 : (op == 6) = false := by simpa using h2
 have Hv : Hid (Q0x ⟨op, a, b, c, n⟩ = false) := Lib.hid (by simp [Q0x, h1, h2])
 clear h1 h2
 go_enter Try.func36, Try.ntmps36
 go_wp2
 go_ret
 exact ⟨Q23 Hv.out.symm, (Ext.refl _).alloc _⟩
theorem Q73 (i : LIns) (w : World) :
  Calls Try.prog 37 #[insV i] w fun e w' => e = .returned (.bool (Q1m i)) ∧ Ext w w' := by
 obtain ⟨op, a, b, c, n⟩ := i
 unfold insV
 simp only
 by_cases h1 : op = 3
 ·subst h1
  go_enter Try.func37, Try.ntmps37
  go_wp2
  go_ret
  exact ⟨Q23 (by simp [Q1m]), (Ext.refl _).alloc _⟩
 by_cases h2 : op = 5
 ·subst h2
  go_enter Try.func37, Try.ntmps37
  go_wp2
  go_ret
  exact ⟨Q23 (by simp [Q1m]), (Ext.refl _).alloc _⟩
 have e1 : (op == 3) = false := by simpa using h1
 have e2 : (op == 5) = false := by simpa using h2
 have Hv : Hid (Q1m ⟨op, a, b, c, n⟩ = false) := Lib.hid (by simp [Q1m, h1, h2])
 clear h1 h2
 go_enter Try.func37, Try.ntmps37
 go_wp2
 go_ret
 exact ⟨Q23 Hv.out.symm, (Ext.refl _).alloc _⟩
theorem Qco {B g : Nat} {vR vC vM vB vS vW : Value} {bases : List Int} {M : Mach} (w : World) (h : MSt w B g vR vC vM vB vS vW bases M) (p : Q00) (hR : Q3c w vR p.regs) (hr : Q0l p.regs = true) (c x : Int) (h0 : 0 ≤ c) (h1 : c.toNat < p.regs.length) :
  Calls Try.prog 57 #[.pointer (some ⟨g, 0, none⟩), .int .i64 c, .int .i64 x] w fun e w' => e = .returned (.bool (decide (0 ≤ x) && decide (x < (Q09 (p.regs.getD c.toNat default) : Nat)))) ∧ Ext w w' := by
 obtain ⟨g0, -⟩ := h.cells
 obtain ⟨-, oa, cap, b, o, rfl, hc1, hc2, hrow⟩ := hR
 have hix := Q3w (cap := cap) hrow.at_
 obtain ⟨e0, e1⟩ := hrow.reg c.toNat h1
 have hlog := Q4x hr _ (Q1s h1)
 have hlen := Q4b hr
 have hw6 : Q09 (p.regs.getD c.toNat default) ≤ 64 := Q4o _ hlog.2
 clear hrow h
 have h1' : c < (p.regs.length : Int) := by omega
 generalize p.regs.getD c.toNat default = r at *
 by_cases hx0 : 0 ≤ x
 ·go_enter Try.func57, Try.ntmps57
  go_wp2_with fail
  (with_reducible refine (Q44 r hlog.1 hlog.2 w).mono ?_)
  rintro e w1 ⟨rfl, hx⟩
  go_wp2
  go_ret
  exact ⟨Q23 (by simp [hx0]), hx⟩
 ·have hd : decide (0 ≤ x) = false := by simpa using hx0
  go_enter Try.func57, Try.ntmps57
  go_wp2
  go_ret
  exact ⟨Q23 (by simp [hx0]), Ext.refl _⟩
def Q2g (w : World) (B g : Nat) (vR vC vM vB vS vW : Value) (bases : List Int) (M : Mach) (i : LIns) (e : Ending) (w' : World) : Prop :=
 e = .returned (.tuple #[]) ∧ Q5i w w' B g vR vC vM vB vS vW bases { M with regs := Q13 M.regs i, seen := M.seen ++ Q1a M.regs i }
section
variable {B g : Nat} {vR vC vM vB vS vW : Value} {bases : List Int} {M : Mach} {w w1 : World} {i : LIns}
theorem Q3r {a x : Int} (ha : okIn 10 a = true) (h : MSt w B g vR vC vM vB vS vW bases M) (hs : Q1a M.regs i = []) (hr : Q13 M.regs i = rset M.regs a x) (hx : Ext w w1) :
  Q2g w B g vR vC vM vB vS vW bases M i (.returned (.tuple #[])) (w1.setCell ⟨g, 7 + a.toNat, none⟩ (.int .i64 x)) := by
 refine ⟨rfl, vS, ?_, (Turn.ofExt hx).trans (Turn.set _ _ _) (fun j _ e => .inl e), fun _ e => .inl e⟩
 rw [hs, hr, List.append_nil]
 exact (h.ext hx).reg_ ha x
theorem Q7z (h : MSt w B g vR vC vM vB vS vW bases M) (hs : Q1a M.regs i = []) (hr : Q13 M.regs i = M.regs) (hx : Ext w w1) :
  Q2g w B g vR vC vM vB vS vW bases M i (.returned (.tuple #[])) w1 := by
 refine ⟨rfl, vS, ?_, Turn.ofExt hx, fun _ e => .inl e⟩
 rw [hs, hr, List.append_nil]
 exact h.ext hx
end
set_option maxRecDepth 100000 in
set_option maxHeartbeats 2000000 in
theorem Qb6 {B g : Nat} {vR vC vM vB vS vW : Value} {bases : List Int} {M : Mach} (a b c n : Int) (h64 : Q0s M.regs) (ha : okIn 10 a = true) (hsn : M.seen.length ≤ 1000000) (w : World) (h : MSt w B g vR vC vM vB vS vW bases M) :
  Calls Try.prog 39 #[.pointer (some ⟨g, 0, none⟩), insV ⟨1, a, b, c, n⟩] w (Q2g w B g vR vC vM vB vS vW bases M ⟨1, a, b, c, n⟩) := by
 unfold insV
 simp only
 have hgl := h.box.lt
 have H := Lib.hid h
 obtain ⟨ra, fa⟩ := h.reg ha
 obtain ⟨a0, a1⟩ := Q0w.1 ha
 have hix := Q20
 clear h
 go_enter Try.func39, Try.ntmps39
 go_upto_region 8 with fail
 obtain ⟨w0, e, he, hW, hs0, hx0, c0, c1, c2, c3, c4⟩ := new5 w 75 (.int .i64 1) (.int .i64 a) (.int .i64 b) (.int .i64 c) (.int .i64 n)
 rw [hW, he]
 have k1 : ∀ W, Ext w0 W → W.cell? ⟨e, 1, none⟩ = some (.int .i64 a) := fun _ h => h.kept c1
 have k4 : ∀ W, Ext w0 W → W.cell? ⟨e, 4, none⟩ = some (.int .i64 n) := fun _ h => h.kept c4
 have rr := Q06 hx0 ⟨ra, fa⟩
 have X := Lib.hid hx0
 clear hW he hs0 hx0 c0 c1 c2 c3 c4 ra fa
 refine Q0t 6 (by kernel_rfl) (by kernel_rfl) ?_
 simp only [List.take_succ_cons, List.take_zero, List.drop_succ_cons, List.drop_zero]
 repeat (first | (refine Q0h ?_ ?_ (fun wc hE => ?_) ?_; (decide); rfl; (focus (go_simp; done)); go_simp) | (refine Q0b ?_ ?_ ?_; (decide); (first | rfl | (focus (go_simp; done))); apply Exists.intro; refine ⟨fun wc hE => ?_, ?_⟩; (go_simp; exact rfl); go_simp) | (refine Q0i ?_ ?_ ?_; (decide); (first | rfl | (focus (go_simp; done))); apply Exists.intro; refine ⟨fun wc hE => ?_, ?_⟩; (go_simp; (first | fail)); go_simp) | (refine Q0f ?_ ?_ ?_; (decide); (focus (go_simp; done)); go_simp))
 refine Q0g ?_
 intro wx hx
 have X := Lib.hid (X.out.trans hx)
 have rr := Q06 hx rr
 clear hx k1 k4
 go_wp2
 refine bodyPost_end (results_none rfl _ _ _) rfl ?_
 exact Q3r (x := n) ha H.out (Q34 (by simp)) rfl X.out
set_option maxRecDepth 100000 in
set_option maxHeartbeats 2000000 in
theorem Qb9 {B g : Nat} {vR vC vM vB vS vW : Value} {bases : List Int} {M : Mach} (a b c n : Int) (h64 : Q0s M.regs) (ha : okIn 10 a = true) (hb : okIn 10 b = true) (hsn : M.seen.length ≤ 1000000) (w : World) (h : MSt w B g vR vC vM vB vS vW bases M) :
  Calls Try.prog 39 #[.pointer (some ⟨g, 0, none⟩), insV ⟨2, a, b, c, n⟩] w (Q2g w B g vR vC vM vB vS vW bases M ⟨2, a, b, c, n⟩) := by
 unfold insV
 simp only
 have hgl := h.box.lt
 have H := Lib.hid h
 obtain ⟨ra, fa⟩ := h.reg ha
 obtain ⟨a0, a1⟩ := Q0w.1 ha
 obtain ⟨rb, fb⟩ := h.reg hb
 obtain ⟨b0, b1⟩ := Q0w.1 hb
 have hix := Q20
 clear h
 go_enter Try.func39, Try.ntmps39
 go_upto_region 10 with fail
 obtain ⟨w0, e, he, hW, hs0, hx0, c0, c1, c2, c3, c4⟩ := new5 w 75 (.int .i64 2) (.int .i64 a) (.int .i64 b) (.int .i64 c) (.int .i64 n)
 rw [hW, he]
 have k1 : ∀ W, Ext w0 W → W.cell? ⟨e, 1, none⟩ = some (.int .i64 a) := fun _ h => h.kept c1
 have k2 : ∀ W, Ext w0 W → W.cell? ⟨e, 2, none⟩ = some (.int .i64 b) := fun _ h => h.kept c2
 have mb : ∀ W, Ext w0 W → W.cell? ⟨g, 7 + b.toNat, none⟩ = some (.int .i64 (rg M.regs b)) := fun _ h => h.kept (hx0.kept rb)
 have rr := Q06 hx0 ⟨ra, fa⟩
 have X := Lib.hid hx0
 clear hW he hs0 hx0 c0 c1 c2 c3 c4 ra fa rb fb
 refine Q0t 11 (by kernel_rfl) (by kernel_rfl) ?_
 simp only [List.take_succ_cons, List.take_zero, List.drop_succ_cons, List.drop_zero]
 repeat (first | (refine Q0h ?_ ?_ (fun wc hE => ?_) ?_; (decide); rfl; (focus (go_simp; done)); go_simp) | (refine Q0b ?_ ?_ ?_; (decide); (first | rfl | (focus (go_simp; done))); apply Exists.intro; refine ⟨fun wc hE => ?_, ?_⟩; (go_simp; exact rfl); go_simp) | (refine Q0i ?_ ?_ ?_; (decide); (first | rfl | (focus (go_simp; done))); apply Exists.intro; refine ⟨fun wc hE => ?_, ?_⟩; (go_simp; (first | fail)); go_simp) | (refine Q0f ?_ ?_ ?_; (decide); (focus (go_simp; done)); go_simp))
 refine Q0g ?_
 intro wx hx
 have X := Lib.hid (X.out.trans hx)
 have rr := Q06 hx rr
 clear hx k1 k2 mb
 go_wp2
 refine bodyPost_end (results_none rfl _ _ _) rfl ?_
 exact Q3r (x := rg M.regs b) ha H.out (Q34 (by simp)) rfl X.out
set_option maxRecDepth 100000 in
set_option maxHeartbeats 2000000 in
theorem Qbd {B g : Nat} {vR vC vM vB vS vW : Value} {bases : List Int} {M : Mach} (a b c n : Int) (h64 : Q0s M.regs) (ha : okIn 10 a = true) (hb : okIn 10 b = true) (hsn : M.seen.length ≤ 1000000) (w : World) (h : MSt w B g vR vC vM vB vS vW bases M) :
  Calls Try.prog 39 #[.pointer (some ⟨g, 0, none⟩), insV ⟨10, a, b, c, n⟩] w (Q2g w B g vR vC vM vB vS vW bases M ⟨10, a, b, c, n⟩) := by
 unfold insV
 simp only
 have hgl := h.box.lt
 have H := Lib.hid h
 obtain ⟨ra, fa⟩ := h.reg ha
 obtain ⟨a0, a1⟩ := Q0w.1 ha
 obtain ⟨rb, fb⟩ := h.reg hb
 obtain ⟨b0, b1⟩ := Q0w.1 hb
 have hix := Q20
 clear h
 go_enter Try.func39, Try.ntmps39
 go_upto_region 12 with fail
 obtain ⟨w0, e, he, hW, hs0, hx0, c0, c1, c2, c3, c4⟩ := new5 w 75 (.int .i64 10) (.int .i64 a) (.int .i64 b) (.int .i64 c) (.int .i64 n)
 rw [hW, he]
 have k1 : ∀ W, Ext w0 W → W.cell? ⟨e, 1, none⟩ = some (.int .i64 a) := fun _ h => h.kept c1
 have k2 : ∀ W, Ext w0 W → W.cell? ⟨e, 2, none⟩ = some (.int .i64 b) := fun _ h => h.kept c2
 have k4 : ∀ W, Ext w0 W → W.cell? ⟨e, 4, none⟩ = some (.int .i64 n) := fun _ h => h.kept c4
 have mb : ∀ W, Ext w0 W → W.cell? ⟨g, 7 + b.toNat, none⟩ = some (.int .i64 (rg M.regs b)) := fun _ h => h.kept (hx0.kept rb)
 have rr := Q06 hx0 ⟨ra, fa⟩
 have X := Lib.hid hx0
 clear hW he hs0 hx0 c0 c1 c2 c3 c4 ra fa rb fb
 refine Q0t 14 (by kernel_rfl) (by kernel_rfl) ?_
 simp only [List.take_succ_cons, List.take_zero, List.drop_succ_cons, List.drop_zero]
 repeat (first | (refine Q0h ?_ ?_ (fun wc hE => ?_) ?_; (decide); rfl; (focus (go_simp; done)); go_simp) | (refine Q0b ?_ ?_ ?_; (decide); (first | rfl | (focus (go_simp; done))); apply Exists.intro; refine ⟨fun wc hE => ?_, ?_⟩; (go_simp; exact rfl); go_simp) | (refine Q0i ?_ ?_ ?_; (decide); (first | rfl | (focus (go_simp; done))); apply Exists.intro; refine ⟨fun wc hE => ?_, ?_⟩; (go_simp; (first | fail)); go_simp) | (refine Q0f ?_ ?_ ?_; (decide); (focus (go_simp; done)); go_simp))
 refine Q0g ?_
 intro wx hx
 have X := Lib.hid (X.out.trans hx)
 have rr := Q06 hx rr
 clear hx k1 k2 k4 mb
 go_wp2
 refine bodyPost_end (results_none rfl _ _ _) rfl ?_
 try rw [show IntKind.i64.wrap (rg M.regs b + n) = wrap64 (rg M.regs b + n) by rw [IntKind.wrap_i64]; unfold wrap64; rfl]
 exact Q3r (x := wrap64 (rg M.regs b + n)) ha H.out (Q34 (by simp)) rfl X.out
set_option maxRecDepth 100000 in
set_option maxHeartbeats 2000000 in
theorem Qba {B g : Nat} {vR vC vM vB vS vW : Value} {bases : List Int} {M : Mach} (a b c n : Int) (h64 : Q0s M.regs) (ha : okIn 10 a = true) (hsn : M.seen.length ≤ 1000000) (w : World) (h : MSt w B g vR vC vM vB vS vW bases M) :
  Calls Try.prog 39 #[.pointer (some ⟨g, 0, none⟩), insV ⟨11, a, b, c, n⟩] w (Q2g w B g vR vC vM vB vS vW bases M ⟨11, a, b, c, n⟩) := by
 unfold insV
 simp only
 have hgl := h.box.lt
 have H := Lib.hid h
 obtain ⟨ra, fa⟩ := h.reg ha
 obtain ⟨a0, a1⟩ := Q0w.1 ha
 have hix := Q20
 clear h
 by_cases hneg : rg M.regs a < 0
 ·have Hr : Hid (Q13 M.regs ⟨11, a, b, c, n⟩ = rset M.regs a 0) := Lib.hid (by simp [Q13, hneg])
  go_enter Try.func39, Try.ntmps39
  go_upto_region 14 with fail
  obtain ⟨w0, e, he, hW, hs0, hx0, c0, c1, c2, c3, c4⟩ := new5 w 75 (.int .i64 11) (.int .i64 a) (.int .i64 b) (.int .i64 c) (.int .i64 n)
  rw [hW, he]
  have k1 : ∀ W, Ext w0 W → W.cell? ⟨e, 1, none⟩ = some (.int .i64 a) := fun _ h => h.kept c1
  have k4 : ∀ W, Ext w0 W → W.cell? ⟨e, 4, none⟩ = some (.int .i64 n) := fun _ h => h.kept c4
  have ma : ∀ W, Ext w0 W → W.cell? ⟨g, 7 + a.toNat, none⟩ = some (.int .i64 (rg M.regs a)) := fun _ h => h.kept (hx0.kept ra)
  have rr := Q06 hx0 ⟨ra, fa⟩
  have X := Lib.hid hx0
  clear hW he hs0 hx0 c0 c2 c3 ra fa
  refine Q0t 18 (by kernel_rfl) (by kernel_rfl) ?_
  simp only [List.take_succ_cons, List.take_zero, List.drop_succ_cons, List.drop_zero]
  repeat (first | (refine Q0h ?_ ?_ (fun wc hE => ?_) ?_; (decide); rfl; (focus (go_simp; done)); go_simp) | (refine Q0b ?_ ?_ ?_; (decide); (first | rfl | (focus (go_simp; done))); apply Exists.intro; refine ⟨fun wc hE => ?_, ?_⟩; (go_simp; exact rfl); go_simp) | (refine Q0i ?_ ?_ ?_; (decide); (first | rfl | (focus (go_simp; done))); apply Exists.intro; refine ⟨fun wc hE => ?_, ?_⟩; (go_simp; (first | fail)); go_simp) | (refine Q0f ?_ ?_ ?_; (decide); (focus (go_simp; done)); go_simp))
  refine Q0g ?_
  intro wx hx
  have X := Lib.hid (X.out.trans hx)
  have rr := Q06 hx rr
  have c1 := hx.kept c1
  clear hx c4 k1 k4 ma
  go_upto_region 15 with fail
  have k1 : ∀ W, Ext wx W → W.cell? ⟨e, 1, none⟩ = some (.int .i64 a) := fun _ h => h.kept c1
  refine Q0t 5 (by kernel_rfl) (by kernel_rfl) ?_
  simp only [List.take_succ_cons, List.take_zero, List.drop_succ_cons, List.drop_zero]
  repeat (first | (refine Q0h ?_ ?_ (fun wc hE => ?_) ?_; (decide); rfl; (focus (go_simp; done)); go_simp) | (refine Q0b ?_ ?_ ?_; (decide); (first | rfl | (focus (go_simp; done))); apply Exists.intro; refine ⟨fun wc hE => ?_, ?_⟩; (go_simp; exact rfl); go_simp) | (refine Q0i ?_ ?_ ?_; (decide); (first | rfl | (focus (go_simp; done))); apply Exists.intro; refine ⟨fun wc hE => ?_, ?_⟩; (go_simp; (first | fail)); go_simp) | (refine Q0f ?_ ?_ ?_; (decide); (focus (go_simp; done)); go_simp))
  refine Q0g ?_
  intro wy hy
  have X := Lib.hid (X.out.trans hy)
  have rr := Q06 hy rr
  clear hy c1 k1
  go_wp2
  refine bodyPost_end (results_none rfl _ _ _) rfl ?_
  exact Q3r (x := 0) ha H.out (Q34 (by simp)) Hr.out X.out
 by_cases hge : n ≤ rg M.regs a
 ·have Hr : Hid (Q13 M.regs ⟨11, a, b, c, n⟩ = rset M.regs a 0) := Lib.hid (by simp [Q13, hge])
  have hn0 : decide (rg M.regs a < 0) = false := by simpa using hneg
  clear hneg
  go_enter Try.func39, Try.ntmps39
  go_upto_region 14 with fail
  obtain ⟨w0, e, he, hW, hs0, hx0, c0, c1, c2, c3, c4⟩ := new5 w 75 (.int .i64 11) (.int .i64 a) (.int .i64 b) (.int .i64 c) (.int .i64 n)
  rw [hW, he]
  have k1 : ∀ W, Ext w0 W → W.cell? ⟨e, 1, none⟩ = some (.int .i64 a) := fun _ h => h.kept c1
  have k4 : ∀ W, Ext w0 W → W.cell? ⟨e, 4, none⟩ = some (.int .i64 n) := fun _ h => h.kept c4
  have ma : ∀ W, Ext w0 W → W.cell? ⟨g, 7 + a.toNat, none⟩ = some (.int .i64 (rg M.regs a)) := fun _ h => h.kept (hx0.kept ra)
  have rr := Q06 hx0 ⟨ra, fa⟩
  have X := Lib.hid hx0
  clear hW he hs0 hx0 c0 c2 c3 ra fa
  refine Q0t 18 (by kernel_rfl) (by kernel_rfl) ?_
  simp only [List.take_succ_cons, List.take_zero, List.drop_succ_cons, List.drop_zero]
  repeat (first | (refine Q0h ?_ ?_ (fun wc hE => ?_) ?_; (decide); rfl; (focus (go_simp; done)); go_simp) | (refine Q0b ?_ ?_ ?_; (decide); (first | rfl | (focus (go_simp; done))); apply Exists.intro; refine ⟨fun wc hE => ?_, ?_⟩; (go_simp; exact rfl); go_simp) | (refine Q0i ?_ ?_ ?_; (decide); (first | rfl | (focus (go_simp; done))); apply Exists.intro; refine ⟨fun wc hE => ?_, ?_⟩; (go_simp; (first | fail)); go_simp) | (refine Q0f ?_ ?_ ?_; (decide); (focus (go_simp; done)); go_simp))
  refine Q0g ?_
  intro wx hx
  have X := Lib.hid (X.out.trans hx)
  have rr := Q06 hx rr
  have c1 := hx.kept c1
  clear hx c4 k1 k4 ma
  go_upto_region 15 with fail
  have k1 : ∀ W, Ext wx W → W.cell? ⟨e, 1, none⟩ = some (.int .i64 a) := fun _ h => h.kept c1
  refine Q0t 5 (by kernel_rfl) (by kernel_rfl) ?_
  simp only [List.take_succ_cons, List.take_zero, List.drop_succ_cons, List.drop_zero]
  repeat (first | (refine Q0h ?_ ?_ (fun wc hE => ?_) ?_; (decide); rfl; (focus (go_simp; done)); go_simp) | (refine Q0b ?_ ?_ ?_; (decide); (first | rfl | (focus (go_simp; done))); apply Exists.intro; refine ⟨fun wc hE => ?_, ?_⟩; (go_simp; exact rfl); go_simp) | (refine Q0i ?_ ?_ ?_; (decide); (first | rfl | (focus (go_simp; done))); apply Exists.intro; refine ⟨fun wc hE => ?_, ?_⟩; (go_simp; (first | fail)); go_simp) | (refine Q0f ?_ ?_ ?_; (decide); (focus (go_simp; done)); go_simp))
  refine Q0g ?_
  intro wy hy
  have X := Lib.hid (X.out.trans hy)
  have rr := Q06 hy rr
  clear hy c1 k1
  go_wp2
  refine bodyPost_end (results_none rfl _ _ _) rfl ?_
  exact Q3r (x := 0) ha H.out (Q34 (by simp)) Hr.out X.out
 ·have Hr : Hid (Q13 M.regs ⟨11, a, b, c, n⟩ = M.regs) := Lib.hid (by simp [Q13, hge, hneg])
  have hn0 : decide (rg M.regs a < 0) = false := by simpa using hneg
  have hn1 : decide (n ≤ rg M.regs a) = false := by simpa using hge
  clear hneg hge
  go_enter Try.func39, Try.ntmps39
  go_upto_region 14 with fail
  obtain ⟨w0, e, he, hW, hs0, hx0, c0, c1, c2, c3, c4⟩ := new5 w 75 (.int .i64 11) (.int .i64 a) (.int .i64 b) (.int .i64 c) (.int .i64 n)
  rw [hW, he]
  have k1 : ∀ W, Ext w0 W → W.cell? ⟨e, 1, none⟩ = some (.int .i64 a) := fun _ h => h.kept c1
  have k4 : ∀ W, Ext w0 W → W.cell? ⟨e, 4, none⟩ = some (.int .i64 n) := fun _ h => h.kept c4
  have ma : ∀ W, Ext w0 W → W.cell? ⟨g, 7 + a.toNat, none⟩ = some (.int .i64 (rg M.regs a)) := fun _ h => h.kept (hx0.kept ra)
  have rr := Q06 hx0 ⟨ra, fa⟩
  have X := Lib.hid hx0
  clear hW he hs0 hx0 c0 c2 c3 ra fa
  refine Q0t 18 (by kernel_rfl) (by kernel_rfl) ?_
  simp only [List.take_succ_cons, List.take_zero, List.drop_succ_cons, List.drop_zero]
  repeat (first | (refine Q0h ?_ ?_ (fun wc hE => ?_) ?_; (decide); rfl; (focus (go_simp; done)); go_simp) | (refine Q0b ?_ ?_ ?_; (decide); (first | rfl | (focus (go_simp; done))); apply Exists.intro; refine ⟨fun wc hE => ?_, ?_⟩; (go_simp; exact rfl); go_simp) | (refine Q0i ?_ ?_ ?_; (decide); (first | rfl | (focus (go_simp; done))); apply Exists.intro; refine ⟨fun wc hE => ?_, ?_⟩; (go_simp; (first | fail)); go_simp) | (refine Q0f ?_ ?_ ?_; (decide); (focus (go_simp; done)); go_simp))
  refine Q0g ?_
  intro wx hx
  have X := Lib.hid (X.out.trans hx)
  have rr := Q06 hx rr
  have c1 := hx.kept c1
  clear hx c4 k1 k4 ma
  go_wp2
  refine bodyPost_end (results_none rfl _ _ _) rfl ?_
  exact Q7z H.out (Q34 (by simp)) Hr.out X.out
set_option maxRecDepth 100000 in
set_option maxHeartbeats 2000000 in
theorem Qbb {B g : Nat} {vR vC vM vB vS vW : Value} {bases : List Int} {M : Mach} (a b c n : Int) (h64 : Q0s M.regs) (hop : True) (hsn : M.seen.length ≤ 1000000) (w : World) (h : MSt w B g vR vC vM vB vS vW bases M) :
  Calls Try.prog 39 #[.pointer (some ⟨g, 0, none⟩), insV ⟨12, a, b, c, n⟩] w (Q2g w B g vR vC vM vB vS vW bases M ⟨12, a, b, c, n⟩) := by
 unfold insV
 simp only
 have hgl := h.box.lt
 have H := Lib.hid h
 have hix := Q20
 clear h
 go_enter Try.func39, Try.ntmps39
 go_wp2
 refine bodyPost_end (results_none rfl _ _ _) rfl ?_
 exact Q7z H.out (Q34 (by simp)) rfl ((Ext.refl _).alloc _)
theorem Q3z {S : Nat → Prop} {w w' : World} (h : Turn S w w') {p : Addr} (hp : p.block < w.heap.size) (hn : ¬ S p.block) : w'.cell? p = w.cell? p := by
 have := h.block p.block hp hn
 unfold World.cell?
 rw [this]
set_option maxRecDepth 100000 in
set_option maxHeartbeats 2000000 in
theorem Q4e {B g : Nat} {vR vC vM vB vS vW : Value} {bases : List Int} {M : Mach} (op a b c n : Int) (h64 : Q0s M.regs) (ha : okIn 10 a = true) (hb : okIn 10 b = true) (hc : okIn 10 c = true) (o1 : 21 ≤ op) (o2 : op ≤ 28) (hsn : M.seen.length ≤ 1000000) (w : World) (h : MSt w B g vR vC vM vB vS vW bases M) :
  Calls Try.prog 39 #[.pointer (some ⟨g, 0, none⟩), insV ⟨op, a, b, c, n⟩] w (Q2g w B g vR vC vM vB vS vW bases M ⟨op, a, b, c, n⟩) := by
 unfold insV
 simp only
 have hgl := h.box.lt
 have H := Lib.hid h
 obtain ⟨ra, fa⟩ := h.reg ha
 obtain ⟨a0, a1⟩ := Q0w.1 ha
 obtain ⟨rb, fb⟩ := h.reg hb
 obtain ⟨b0, b1⟩ := Q0w.1 hb
 obtain ⟨rc, fc⟩ := h.reg hc
 obtain ⟨c0, c1⟩ := Q0w.1 hc
 have hsub : IntKind.i64.wrap (op - 20) = op - 20 := Go.IntWalk.i64_in _ (by omega)
 have q1 : (op == (1 : Int)) = false := by simp; try omega
 have q2 : (op == (2 : Int)) = false := by simp; try omega
 have q3 : (op == (10 : Int)) = false := by simp; try omega
 have q4 : (op == (11 : Int)) = false := by simp; try omega
 have q5 : (op == (12 : Int)) = false := by simp; try omega
 have q6 : (op - 20 == (9 : Int)) = false := by simp; omega
 have q7 : (op - 20 == (10 : Int)) = false := by simp; omega
 have Hr : Hid (Q13 M.regs ⟨op, a, b, c, n⟩ = rset M.regs a (nop (op - 20) (rg M.regs b) (rg M.regs c))) := Lib.hid (by
  unfold Q13
  rw [if_neg (by simp only; omega), if_neg (by simp only; omega), if_neg (by simp only; omega), if_neg (by simp only; omega), if_neg (by simp only; omega)]
  try rfl)
 have hix := Q20
 clear h
 go_enter Try.func39, Try.ntmps39
 go_upto_region 6 with fail
 obtain ⟨w0, e, he, hW, hs0, hx0, c0, c1, c2, c3, c4⟩ := new5 w 75 (.int .i64 op) (.int .i64 a) (.int .i64 b) (.int .i64 c) (.int .i64 n)
 rw [hW, he]
 have k1 : ∀ W, Ext w0 W → W.cell? ⟨e, 1, none⟩ = some (.int .i64 a) := fun _ h => h.kept c1
 have k2 : ∀ W, Ext w0 W → W.cell? ⟨e, 2, none⟩ = some (.int .i64 b) := fun _ h => h.kept c2
 have k3 : ∀ W, Ext w0 W → W.cell? ⟨e, 3, none⟩ = some (.int .i64 c) := fun _ h => h.kept c3
 have mb : ∀ W, Ext w0 W → W.cell? ⟨g, 7 + b.toNat, none⟩ = some (.int .i64 (rg M.regs b)) := fun _ h => h.kept (hx0.kept rb)
 have mc : ∀ W, Ext w0 W → W.cell? ⟨g, 7 + c.toNat, none⟩ = some (.int .i64 (rg M.regs c)) := fun _ h => h.kept (hx0.kept rc)
 have rr := Q06 hx0 ⟨ra, fa⟩
 have X := Lib.hid hx0
 clear hW hs0 hx0 c0 c1 c2 c3 c4 ra fa rb fb rc fc
 refine Q0t 19 (by kernel_rfl) (by kernel_rfl) ?_
 simp only [List.take_succ_cons, List.take_zero, List.drop_succ_cons, List.drop_zero]
 repeat (first | (refine Q0h ?_ ?_ (fun wc hE => ?_) ?_; (decide); rfl; (focus (go_simp; done)); go_simp) | (refine Q0b ?_ ?_ ?_; (decide); (first | rfl | (focus (go_simp; done))); apply Exists.intro; refine ⟨fun wc hE => ?_, ?_⟩; (go_simp; exact rfl); go_simp) | (refine Q0i ?_ ?_ ?_; (decide); (first | rfl | (focus (go_simp; done))); apply Exists.intro; refine ⟨fun wc hE => ?_, ?_⟩; (go_simp; (first | (with_reducible exact Q6n (Q63 (op - 20) (rg M.regs b) (rg M.regs c) _)))); go_simp) | (refine Q0f ?_ ?_ ?_; (decide); (focus (go_simp; done)); go_simp))
 refine Q0g ?_
 intro wx hx
 have X := Lib.hid (X.out.trans hx)
 have rr := Q06 hx rr
 clear hx k1 k2 k3 mb mc hsub
 go_wp2
 refine bodyPost_end (results_none rfl _ _ _) rfl ?_
 exact Q3r (x := nop (op - 20) (rg M.regs b) (rg M.regs c)) ha H.out (Q34 (by simp only; omega)) Hr.out X.out
set_option maxRecDepth 100000 in
set_option maxHeartbeats 2000000 in
theorem Qb8 {B g : Nat} {vR vC vM vB vS vW : Value} {bases : List Int} {M : Mach} (a b c n : Int) (h64 : Q0s M.regs) (ha : okIn 10 a = true) (hb : okIn 10 b = true) (hc : okIn 10 c = true) (hsn : M.seen.length ≤ 1000000) (w : World) (h : MSt w B g vR vC vM vB vS vW bases M) :
  Calls Try.prog 39 #[.pointer (some ⟨g, 0, none⟩), insV ⟨29, a, b, c, n⟩] w (Q2g w B g vR vC vM vB vS vW bases M ⟨29, a, b, c, n⟩) := by
 unfold insV
 simp only
 have hgl := h.box.lt
 have H := Lib.hid h
 obtain ⟨ra, fa⟩ := h.reg ha
 obtain ⟨a0, a1⟩ := Q0w.1 ha
 obtain ⟨rb, fb⟩ := h.reg hb
 obtain ⟨b0, b1⟩ := Q0w.1 hb
 obtain ⟨rc, fc⟩ := h.reg hc
 obtain ⟨c0, c1⟩ := Q0w.1 hc
 have hsub : IntKind.i64.wrap (9) = 9 := Go.IntWalk.i64_in _ (by omega)
 have q1 : (29 == (1 : Int)) = false := by simp; try omega
 have q2 : (29 == (2 : Int)) = false := by simp; try omega
 have q3 : (29 == (10 : Int)) = false := by simp; try omega
 have q4 : (29 == (11 : Int)) = false := by simp; try omega
 have q5 : (29 == (12 : Int)) = false := by simp; try omega
 have Hr : Hid (Q13 M.regs ⟨29, a, b, c, n⟩ = rset M.regs a (nop (9) (rg M.regs b) (rg M.regs c))) := Lib.hid (by
  unfold Q13
  rw [if_neg (by simp only; omega), if_neg (by simp only; omega), if_neg (by simp only; omega), if_neg (by simp only; omega), if_neg (by simp only; omega)]
  try rfl)
 have hix := Q20
 clear h
 go_enter Try.func39, Try.ntmps39
 go_upto_region 5 with fail
 obtain ⟨w0, e, he, hW, hs0, hx0, c0, c1, c2, c3, c4⟩ := new5 w 75 (.int .i64 29) (.int .i64 a) (.int .i64 b) (.int .i64 c) (.int .i64 n)
 rw [hW, he]
 have k1 : ∀ W, Ext w0 W → W.cell? ⟨e, 1, none⟩ = some (.int .i64 a) := fun _ h => h.kept c1
 have k2 : ∀ W, Ext w0 W → W.cell? ⟨e, 2, none⟩ = some (.int .i64 b) := fun _ h => h.kept c2
 have k3 : ∀ W, Ext w0 W → W.cell? ⟨e, 3, none⟩ = some (.int .i64 c) := fun _ h => h.kept c3
 have mb : ∀ W, Ext w0 W → W.cell? ⟨g, 7 + b.toNat, none⟩ = some (.int .i64 (rg M.regs b)) := fun _ h => h.kept (hx0.kept rb)
 have mc : ∀ W, Ext w0 W → W.cell? ⟨g, 7 + c.toNat, none⟩ = some (.int .i64 (rg M.regs c)) := fun _ h => h.kept (hx0.kept rc)
 have rr := Q06 hx0 ⟨ra, fa⟩
 have X := Lib.hid hx0
 have Ha := Lib.hid ha
 have Hb := Lib.hid hb
 have Hc := Lib.hid hc
 have hke : e ≠ g := by omega
 clear hW hs0 hx0 c0 c4 ra fa rb fb rc fc
 refine Q0t 13 (by kernel_rfl) (by kernel_rfl) ?_
 simp only [List.take_succ_cons, List.take_zero, List.drop_succ_cons, List.drop_zero]
 repeat (first | (refine Q0h ?_ ?_ (fun wc hE => ?_) ?_; (decide); rfl; (focus (go_simp; done)); go_simp) | (refine Q0b ?_ ?_ ?_; (decide); (first | rfl | (focus (go_simp; done))); apply Exists.intro; refine ⟨fun wc hE => ?_, ?_⟩; (go_simp; exact rfl); go_simp) | (refine Q0i ?_ ?_ ?_; (decide); (first | rfl | (focus (go_simp; done))); apply Exists.intro; refine ⟨fun wc hE => ?_, ?_⟩; (go_simp; (first | fail)); go_simp) | (refine Q0f ?_ ?_ ?_; (decide); (focus (go_simp; done)); go_simp))
 refine Q0g ?_
 intro wx hx
 have X := Lib.hid (X.out.trans hx)
 have c1 := hx.kept c1
 have c2 := hx.kept c2
 have c3 := hx.kept c3
 clear hx k1 k2 k3 mb mc rr
 go_wp2_with fail
 (with_reducible refine (Q31 wx (H.out.ext X.out) 3 (rg M.regs b) (rg M.regs c) hsn).mono ?_)
 rintro e1 w2 ⟨rfl, vS2, P2, T2, N2⟩
 have hes : vS.ownBlock ≠ some e := by
  intro he2
  have := (H.out.sn.lt e he2).2
  omega
 have hne : ¬ (e = g ∨ vS.ownBlock = some e) := by
  rintro (h1 | h1)
  ·exact hke h1
  ·exact hes h1
 have hel := Q0m c1
 simp only at hel
 have c1 : w2.cell? ⟨e, 1, none⟩ = some (.int .i64 a) := by rw [Q3z T2 hel hne]; exact c1
 have c2 : w2.cell? ⟨e, 2, none⟩ = some (.int .i64 b) := by rw [Q3z T2 hel hne]; exact c2
 have c3 : w2.cell? ⟨e, 3, none⟩ = some (.int .i64 c) := by rw [Q3z T2 hel hne]; exact c3
 obtain ⟨ra, fa⟩ := P2.reg Ha.out
 obtain ⟨rb, -⟩ := P2.reg Hb.out
 obtain ⟨rc, -⟩ := P2.reg Hc.out
 simp only at ra rb rc
 have P2 := Lib.hid P2
 have T2 := Lib.hid T2
 have N2 := Lib.hid N2
 have hgl := P2.out.box.lt
 clear hes hne
 go_upto_region 6 with fail
 have k1 : ∀ W, Ext w2 W → W.cell? ⟨e, 1, none⟩ = some (.int .i64 a) := fun _ h => h.kept c1
 have k2 : ∀ W, Ext w2 W → W.cell? ⟨e, 2, none⟩ = some (.int .i64 b) := fun _ h => h.kept c2
 have k3 : ∀ W, Ext w2 W → W.cell? ⟨e, 3, none⟩ = some (.int .i64 c) := fun _ h => h.kept c3
 have mb : ∀ W, Ext w2 W → W.cell? ⟨g, 7 + b.toNat, none⟩ = some (.int .i64 (rg M.regs b)) := fun _ h => h.kept (rb)
 have mc : ∀ W, Ext w2 W → W.cell? ⟨g, 7 + c.toNat, none⟩ = some (.int .i64 (rg M.regs c)) := fun _ h => h.kept (rc)
 have rr : w2.cell? ⟨g, 7 + a.toNat, none⟩ = some (.int .i64 (rg M.regs a)) ∧ w2.frozen? ⟨g, 7 + a.toNat, none⟩ = false := ⟨ra, fa⟩
 clear c1 c2 c3 ra fa rb rc
 refine Q0t 19 (by kernel_rfl) (by kernel_rfl) ?_
 simp only [List.take_succ_cons, List.take_zero, List.drop_succ_cons, List.drop_zero]
 repeat (first | (refine Q0h ?_ ?_ (fun wc hE => ?_) ?_; (decide); rfl; (focus (go_simp; done)); go_simp) | (refine Q0b ?_ ?_ ?_; (decide); (first | rfl | (focus (go_simp; done))); apply Exists.intro; refine ⟨fun wc hE => ?_, ?_⟩; (go_simp; exact rfl); go_simp) | (refine Q0i ?_ ?_ ?_; (decide); (first | rfl | (focus (go_simp; done))); apply Exists.intro; refine ⟨fun wc hE => ?_, ?_⟩; (go_simp; (first | (with_reducible exact Q6n (Q63 (9) (rg M.regs b) (rg M.regs c) _)))); go_simp) | (refine Q0f ?_ ?_ ?_; (decide); (focus (go_simp; done)); go_simp))
 refine Q0g ?_
 intro wy hy
 have rr := Q06 hy rr
 have Y := Lib.hid hy
 clear hy k1 k2 k3 mb mc hsub
 go_wp2
 refine bodyPost_end (results_none rfl _ _ _) rfl ?_
 refine ⟨rfl, vS2, ?_, ?_, fun j hj => ?_⟩
 ·have h1 := (P2.out.ext Y.out).reg_ Ha.out (nop (9) (rg M.regs b) (rg M.regs c))
  rw [Hr.out]
  exact h1
 ·exact (((Turn.ofExt X.out).trans T2.out (fun _ _ e => e)).ext Y.out).trans (Turn.set _ _ _) (fun j _ e => .inl e)
 ·rcases N2.out j hj with h1 | h1
  ·exact .inl h1
  ·have := X.out.size
   exact .inr (by omega)
set_option maxRecDepth 100000 in
set_option maxHeartbeats 2000000 in
theorem Qb7 {B g : Nat} {vR vC vM vB vS vW : Value} {bases : List Int} {M : Mach} (a b c n : Int) (h64 : Q0s M.regs) (ha : okIn 10 a = true) (hb : okIn 10 b = true) (hc : okIn 10 c = true) (hsn : M.seen.length ≤ 1000000) (w : World) (h : MSt w B g vR vC vM vB vS vW bases M) :
  Calls Try.prog 39 #[.pointer (some ⟨g, 0, none⟩), insV ⟨30, a, b, c, n⟩] w (Q2g w B g vR vC vM vB vS vW bases M ⟨30, a, b, c, n⟩) := by
 unfold insV
 simp only
 have hgl := h.box.lt
 have H := Lib.hid h
 obtain ⟨ra, fa⟩ := h.reg ha
 obtain ⟨a0, a1⟩ := Q0w.1 ha
 obtain ⟨rb, fb⟩ := h.reg hb
 obtain ⟨b0, b1⟩ := Q0w.1 hb
 obtain ⟨rc, fc⟩ := h.reg hc
 obtain ⟨c0, c1⟩ := Q0w.1 hc
 have hsub : IntKind.i64.wrap (10) = 10 := Go.IntWalk.i64_in _ (by omega)
 have q1 : (30 == (1 : Int)) = false := by simp; try omega
 have q2 : (30 == (2 : Int)) = false := by simp; try omega
 have q3 : (30 == (10 : Int)) = false := by simp; try omega
 have q4 : (30 == (11 : Int)) = false := by simp; try omega
 have q5 : (30 == (12 : Int)) = false := by simp; try omega
 have Hr : Hid (Q13 M.regs ⟨30, a, b, c, n⟩ = rset M.regs a (nop (10) (rg M.regs b) (rg M.regs c))) := Lib.hid (by
  unfold Q13
  rw [if_neg (by simp only; omega), if_neg (by simp only; omega), if_neg (by simp only; omega), if_neg (by simp only; omega), if_neg (by simp only; omega)]
  try rfl)
 have hix := Q20
 clear h
 go_enter Try.func39, Try.ntmps39
 go_upto_region 5 with fail
 obtain ⟨w0, e, he, hW, hs0, hx0, c0, c1, c2, c3, c4⟩ := new5 w 75 (.int .i64 30) (.int .i64 a) (.int .i64 b) (.int .i64 c) (.int .i64 n)
 rw [hW, he]
 have k1 : ∀ W, Ext w0 W → W.cell? ⟨e, 1, none⟩ = some (.int .i64 a) := fun _ h => h.kept c1
 have k2 : ∀ W, Ext w0 W → W.cell? ⟨e, 2, none⟩ = some (.int .i64 b) := fun _ h => h.kept c2
 have k3 : ∀ W, Ext w0 W → W.cell? ⟨e, 3, none⟩ = some (.int .i64 c) := fun _ h => h.kept c3
 have mb : ∀ W, Ext w0 W → W.cell? ⟨g, 7 + b.toNat, none⟩ = some (.int .i64 (rg M.regs b)) := fun _ h => h.kept (hx0.kept rb)
 have mc : ∀ W, Ext w0 W → W.cell? ⟨g, 7 + c.toNat, none⟩ = some (.int .i64 (rg M.regs c)) := fun _ h => h.kept (hx0.kept rc)
 have rr := Q06 hx0 ⟨ra, fa⟩
 have X := Lib.hid hx0
 have Ha := Lib.hid ha
 have Hb := Lib.hid hb
 have Hc := Lib.hid hc
 have hke : e ≠ g := by omega
 clear hW hs0 hx0 c0 c4 ra fa rb fb rc fc
 refine Q0t 13 (by kernel_rfl) (by kernel_rfl) ?_
 simp only [List.take_succ_cons, List.take_zero, List.drop_succ_cons, List.drop_zero]
 repeat (first | (refine Q0h ?_ ?_ (fun wc hE => ?_) ?_; (decide); rfl; (focus (go_simp; done)); go_simp) | (refine Q0b ?_ ?_ ?_; (decide); (first | rfl | (focus (go_simp; done))); apply Exists.intro; refine ⟨fun wc hE => ?_, ?_⟩; (go_simp; exact rfl); go_simp) | (refine Q0i ?_ ?_ ?_; (decide); (first | rfl | (focus (go_simp; done))); apply Exists.intro; refine ⟨fun wc hE => ?_, ?_⟩; (go_simp; (first | fail)); go_simp) | (refine Q0f ?_ ?_ ?_; (decide); (focus (go_simp; done)); go_simp))
 refine Q0g ?_
 intro wx hx
 have X := Lib.hid (X.out.trans hx)
 have c1 := hx.kept c1
 have c2 := hx.kept c2
 have c3 := hx.kept c3
 clear hx k1 k2 k3 mb mc rr
 go_wp2_with fail
 (with_reducible refine (Q31 wx (H.out.ext X.out) 3 (rg M.regs b) (rg M.regs c) hsn).mono ?_)
 rintro e1 w2 ⟨rfl, vS2, P2, T2, N2⟩
 have hes : vS.ownBlock ≠ some e := by
  intro he2
  have := (H.out.sn.lt e he2).2
  omega
 have hne : ¬ (e = g ∨ vS.ownBlock = some e) := by
  rintro (h1 | h1)
  ·exact hke h1
  ·exact hes h1
 have hel := Q0m c1
 simp only at hel
 have c1 : w2.cell? ⟨e, 1, none⟩ = some (.int .i64 a) := by rw [Q3z T2 hel hne]; exact c1
 have c2 : w2.cell? ⟨e, 2, none⟩ = some (.int .i64 b) := by rw [Q3z T2 hel hne]; exact c2
 have c3 : w2.cell? ⟨e, 3, none⟩ = some (.int .i64 c) := by rw [Q3z T2 hel hne]; exact c3
 obtain ⟨ra, fa⟩ := P2.reg Ha.out
 obtain ⟨rb, -⟩ := P2.reg Hb.out
 obtain ⟨rc, -⟩ := P2.reg Hc.out
 simp only at ra rb rc
 have P2 := Lib.hid P2
 have T2 := Lib.hid T2
 have N2 := Lib.hid N2
 have hgl := P2.out.box.lt
 clear hes hne
 go_upto_region 6 with fail
 have k1 : ∀ W, Ext w2 W → W.cell? ⟨e, 1, none⟩ = some (.int .i64 a) := fun _ h => h.kept c1
 have k2 : ∀ W, Ext w2 W → W.cell? ⟨e, 2, none⟩ = some (.int .i64 b) := fun _ h => h.kept c2
 have k3 : ∀ W, Ext w2 W → W.cell? ⟨e, 3, none⟩ = some (.int .i64 c) := fun _ h => h.kept c3
 have mb : ∀ W, Ext w2 W → W.cell? ⟨g, 7 + b.toNat, none⟩ = some (.int .i64 (rg M.regs b)) := fun _ h => h.kept (rb)
 have mc : ∀ W, Ext w2 W → W.cell? ⟨g, 7 + c.toNat, none⟩ = some (.int .i64 (rg M.regs c)) := fun _ h => h.kept (rc)
 have rr : w2.cell? ⟨g, 7 + a.toNat, none⟩ = some (.int .i64 (rg M.regs a)) ∧ w2.frozen? ⟨g, 7 + a.toNat, none⟩ = false := ⟨ra, fa⟩
 clear c1 c2 c3 ra fa rb rc
 refine Q0t 19 (by kernel_rfl) (by kernel_rfl) ?_
 simp only [List.take_succ_cons, List.take_zero, List.drop_succ_cons, List.drop_zero]
 repeat (first | (refine Q0h ?_ ?_ (fun wc hE => ?_) ?_; (decide); rfl; (focus (go_simp; done)); go_simp) | (refine Q0b ?_ ?_ ?_; (decide); (first | rfl | (focus (go_simp; done))); apply Exists.intro; refine ⟨fun wc hE => ?_, ?_⟩; (go_simp; exact rfl); go_simp) | (refine Q0i ?_ ?_ ?_; (decide); (first | rfl | (focus (go_simp; done))); apply Exists.intro; refine ⟨fun wc hE => ?_, ?_⟩; (go_simp; (first | (with_reducible exact Q6n (Q63 (10) (rg M.regs b) (rg M.regs c) _)))); go_simp) | (refine Q0f ?_ ?_ ?_; (decide); (focus (go_simp; done)); go_simp))
 refine Q0g ?_
 intro wy hy
 have rr := Q06 hy rr
 have Y := Lib.hid hy
 clear hy k1 k2 k3 mb mc hsub
 go_wp2
 refine bodyPost_end (results_none rfl _ _ _) rfl ?_
 refine ⟨rfl, vS2, ?_, ?_, fun j hj => ?_⟩
 ·have h1 := (P2.out.ext Y.out).reg_ Ha.out (nop (10) (rg M.regs b) (rg M.regs c))
  rw [Hr.out]
  exact h1
 ·exact (((Turn.ofExt X.out).trans T2.out (fun _ _ e => e)).ext Y.out).trans (Turn.set _ _ _) (fun j _ e => .inl e)
 ·rcases N2.out j hj with h1 | h1
  ·exact .inl h1
  ·have := X.out.size
   exact .inr (by omega)
theorem Qbc {B g : Nat} {vR vC vM vB vS vW : Value} {bases : List Int} {M : Mach} (p : Q00) (i : LIns) (h64 : Q0s M.regs) (hi : Q03 p 10 i = true) (h3 : i.op ≠ 3 ∧ i.op ≠ 4 ∧ i.op ≠ 5 ∧ i.op ≠ 6 ∧ i.op ≠ 7 ∧ i.op ≠ 8 ∧ i.op ≠ 9) (hsn : M.seen.length ≤ 1000000) (w : World) (h : MSt w B g vR vC vM vB vS vW bases M) :
  Calls Try.prog 39 #[.pointer (some ⟨g, 0, none⟩), insV i] w (Q2g w B g vR vC vM vB vS vW bases M i) := by
 obtain ⟨g1, g2, g10, g3, g5, g8, g9, g11, go, g7, gop⟩ := Q3v hi
 obtain ⟨op, a, b, c, n⟩ := i
 simp only at h3
 by_cases e1 : op = 1
 ·subst e1; exact Qb6 a b c n h64 (g1 rfl) hsn w h
 by_cases e2 : op = 2
 ·subst e2; exact Qb9 a b c n h64 (g2 rfl).1 (g2 rfl).2 hsn w h
 by_cases e10 : op = 10
 ·subst e10; exact Qbd a b c n h64 (g10 rfl).1 (g10 rfl).2 hsn w h
 by_cases e11 : op = 11
 ·subst e11; exact Qba a b c n h64 (g11 rfl).1 hsn w h
 by_cases e12 : op = 12
 ·subst e12; exact Qbb a b c n h64 trivial hsn w h
 obtain ⟨p1, p2, p3, p4, p5⟩ := go e1 e2 e10 h3.1 h3.2.1 h3.2.2.1 h3.2.2.2.1 h3.2.2.2.2.1 h3.2.2.2.2.2.1 h3.2.2.2.2.2.2 e11 e12
 simp only at p4 p5
 by_cases e29 : op = 29
 ·subst e29; exact Qb8 a b c n h64 p1 p2 p3 hsn w h
 by_cases e30 : op = 30
 ·subst e30; exact Qb7 a b c n h64 p1 p2 p3 hsn w h
 exact Q4e op a b c n h64 p1 p2 p3 p4 (by omega) hsn w h
structure RV where
 (vR vW vP vS vX bR bW bP : Value)
 (vs bs : List Value)
section
variable {wB w w' : World} {g : Nat} {vG vC : Value} {V V' : RV} {S S' : Spc}
end
section
variable {wB w : World} {g : Nat} {vG vC : Value} {V : RV} {S : Spc}
end
section
variable {w0 w w' : World} {q : Nat} {P : Plc} {bR bW bP u : Value} {bs : List Value} {r ws : List Int} {ps : List (List Int)}
end
section
variable {wB w : World} {g : Nat} {vG vC : Value} {V : RV} {S : Spc}
def Off (v : Value) (W w : World) : Prop := Turn (fun j => v.ownBlock = some j) W w
theorem Off.kept {v x : Value} {W w : World} {b o : Nat} (h : Off v W w) (hc : W.cell? ⟨b, o, none⟩ = some x) (hn : v.ownBlock ≠ some b) : w.cell? ⟨b, o, none⟩ = some x := by
 rw [World.cell?_of_block (w := W) (w' := w) (a := ⟨b, o, none⟩) (Turn.block h b (Q0m hc) hn)]
 exact hc
def Q2o (i : LIns) (S : Spc) (m : Int) : Spc :=
 let s1 := { S with seen := S.seen ++ [⟨2, m, putN i⟩] }
 if 0 ≤ m ∧ m < S.pl.words.length then
  if Q0x i then { s1 with pl := { s1.pl with at_ := s1.pl.at_ + 1, past := s1.pl.past.set m.toNat (s1.pl.past.getD m.toNat [] ++ [s1.pl.words.getD m.toNat 0]), words := s1.pl.words.set m.toNat (rg s1.pl.regs i.a) } }
  else Q1f i m.toNat s1
 else
  let s2 := s1.goTo (s1.pl.at_ + 1)
  if Q0x i then s2 else s2.put_ i.a 0
theorem Q9c {p : Q00} {i : LIns} {S : Spc} (h : (!Q37 p i (Q1n S.pl.regs i) && !S.ahead) = false) : Q16 p i S = Q2o i S (wrap64 (Q07 p i.c.toNat + Q1n S.pl.regs i)) := by
 unfold Q16
 simp only
 rw [if_neg (by rw [h]; simp)]
 rfl
theorem Q7x {i : LIns} (h : Q0x i = false) : putN i = 0 := by unfold putN; rw [h]; rfl
theorem Q7y {i : LIns} (h : Q0x i = true) : putN i = 1 := by unfold putN; rw [h]; rfl
theorem Qap {i : LIns} {S : Spc} {m : Int} (h : Q0x i = false) (hm : ¬ (0 ≤ m ∧ m < S.pl.words.length)) : Q2o i S m = (({ S with seen := S.seen ++ [⟨2, m, 0⟩] } : Spc).goTo (S.pl.at_ + 1)).put_ i.a 0 := by
 unfold Q2o
 simp only
 rw [if_neg hm, if_neg (by rw [h]; simp), Q7x h]
theorem Qaq {i : LIns} {S : Spc} {m : Int} (h : Q0x i = true) (hm : ¬ (0 ≤ m ∧ m < S.pl.words.length)) : Q2o i S m = ({ S with seen := S.seen ++ [⟨2, m, 1⟩] } : Spc).goTo (S.pl.at_ + 1) := by
 unfold Q2o
 simp only
 rw [if_neg hm, if_pos h, Q7y h]
theorem Qan {i : LIns} {S : Spc} {m : Int} (h : Q0x i = false) (hm : 0 ≤ m ∧ m < S.pl.words.length) : Q2o i S m = Q1f i m.toNat { S with seen := S.seen ++ [⟨2, m, 0⟩] } := by
 unfold Q2o
 simp only
 rw [if_pos hm, if_neg (by rw [h]; simp), Q7x h]
theorem Qao {i : LIns} {S : Spc} {m : Int} (h : Q0x i = true) (hm : 0 ≤ m ∧ m < S.pl.words.length) : Q2o i S m = { S with seen := S.seen ++ [⟨2, m, 1⟩], pl := { S.pl with at_ := S.pl.at_ + 1, past := S.pl.past.set m.toNat (S.pl.past.getD m.toNat [] ++ [S.pl.words.getD m.toNat 0]), words := S.pl.words.set m.toNat (rg S.pl.regs i.a) } } := by
 unfold Q2o
 simp only
 rw [if_pos hm, if_pos h, Q7y h]
theorem Q9d {p : Q00} {i : LIns} {S : Spc} (h : Q37 p i (Q1n S.pl.regs i) = false) (ha : S.ahead = false) : Q16 p i S = { S with fin := 2 } := by
 unfold Q16
 simp only
 rw [if_pos (by rw [h, ha]; rfl)]
end
def Q10 (p : Q00) : List Int := (List.range p.regs.length).map fun k => (Q07 p k : Int)
theorem Q42 (p : Q00) : (Q10 p).length = p.regs.length := by simp [Q10]
theorem Q8y (p : Q00) {c : Nat} (h : c < p.regs.length) : ((Q10 p).map (Value.int .i64))[c]? = some (.int .i64 (Q07 p c : Nat)) := by simp [Q10, h]
theorem Qd6 (k n cap : Nat) (W : World) (i : Int) (h0 : 0 ≤ i) (h1 : i < n) :
  (Instr.indexAt 27 (.slice (some ⟨k, 0, none⟩) n cap) (.int .i64 i)).run Try.prog W = .ok (.pointer (some ⟨k, i.toNat, none⟩)) W := by
 have hs : (Try.prog.info? 3).map (·.size) = some 1 := by kernel_rfl
 simp [Instr.indexAt, run_underlying Try.underlying27, asIntOf, h0, h1]
 have := Q2m k 0 i.toNat
 simpa using this
theorem Q2t {w : World} {B : Nat} {e : TypeId} {v : Value} {n : Nat} {xs : List Value} (h : w.ownsRow B e 1 v n xs) (hn : 0 < n) : ∃ k cap, v = .slice (some ⟨k, 0, none⟩) n cap ∧ B ≤ k ∧ ∀ j x, j < n → xs[j]? = some x → w.cell? ⟨k, j, none⟩ = some x ∧ w.frozen? ⟨k, j, none⟩ = false := by
 have h' := h
 rcases h.2 with ⟨-, h0⟩ | ⟨k, cap, cur, rfl, a1, a2, a3⟩
 ·omega
 ·exact ⟨k, cap, rfl, a1, fun j x hj hx => ⟨by rw [h'.cellAt j (by omega), hx], h'.frozenAt j⟩⟩
theorem MSt.below {w w' : World} {B g : Nat} {vR vC vM vB vS vW : Value} {bases : List Int} {M : Mach} (h : MSt w B g vR vC vM vB vS vW bases M) (ht : Turn (fun j => j = g ∨ vS.ownBlock = some j) w w') : Below B w w' :=
 ht.below h.size (by
  rintro j (rfl | e)
  ·exact h.hg
  ·exact Q2c h.sn j e)
theorem MOk.same {p : Q00} {M M' : Mach} (h : MOk p M) (h1 : M'.regs = M.regs) (h2 : M'.words = M.words) : MOk p M' := ⟨by rw [h1]; exact h.len, by rw [h1]; exact h.r64, by rw [h2]; exact h.wlen, by rw [h2]; exact h.w64⟩
theorem Qa4 (ad : Addr) (n cap : Nat) (w : World) : (binOp .eql 57 (.slice (some ad) n cap) (.slice none 0 0)).run Try.prog w = .ok (.bool false) w := by
 first | (kernel_rfl; done) | (go_simp; done)
theorem Qd3 : (Try.prog.info? 3).map (fun i => (i.zero, i.size, i.bytes)) = some (some (.int .i64 0), 1, 8) := by kernel_rfl
set_option maxRecDepth 100000 in
theorem Q39 {w : World} {ad : Addr} {n cap : Nat} {news : List Value} (hs : Src w 1 (some ad) n news) (hn : n ≤ 1000000) :
  Calls Try.prog 41 #[.slice (some ad) n cap] w fun e w' => ∃ v', e = .returned v' ∧ w'.ownsRow w.heap.size 2 1 v' n news ∧ Ext w w' := by
 obtain ⟨i0, hi0, hz0, hz1, hz2⟩ := info_parts Q5a
 have Hs := Lib.hid hs
 have hnil := Qa4 ad n cap
 clear hs
 go_enter Try.func41, Try.ntmps41
 go_wp2_with (at_builtin; refine Q3f _ rfl _ _ 57 rfl w.heap.size 2 i0 _ 1 8 Try.underlying57 hi0 hz0 hz1 hz2 rfl (by decide) _ 0 [] rfl ?c0 (some ad) n cap news rfl ?c1 ?c3 ?c4 ?c5 ?_)
 case c0 =>
  have h := World.ownsRow_lit (base := w.heap.size) (e := 2) (size := 1) w #[] 0 (Nat.le_refl _) (by decide) rfl
  simpa [Act.eval] using h
 case c1 => exact Hs.out.ext ((Ext.refl _).alloc _)
 case c3 => unfold maxLen; omega
 case c4 => omega
 case c5 => simp
 intro v1 w1 hown hgrow hat
 have X : Ext w w1 := ((Ext.refl w).alloc _).grown hgrow (by
  intro k hk
  simp [Act.eval, Value.ownBlock] at hk
  omega)
 have Hown := Lib.hid hown
 have X := Lib.hid X
 clear hown hgrow hat
 go_wp2
 go_ret
 exact ⟨_, rfl, by simpa using Hown.out, X.out⟩
section
variable {w w' : World} {B g : Nat} {vR vC vM vB vS vW : Value} {bases : List Int} {M : Mach}
theorem MSt.bases_ (h : MSt w B g vR vC vM vB vS vW bases M) {vB' : Value} {bs : List Int} (hg : w.grownBy w' vB.ownBlock) (ho : w'.ownsRow B 3 1 vB' bs.length (bs.map (Value.int .i64))) :
  MSt (w'.setCell ⟨g, 19, none⟩ vB') B g vR vC vM vB' vS vW bs M := by
 have hb := h.box.grown hg h.gb
 have hne : some g ≠ vB'.ownBlock := Q0d ho hb (by decide)
 have hw := Q1d h.ws hg (fun k hk he => Q1z h.bs h.ws (by decide) k hk he)
 have hs := Q1d h.sn hg (fun k hk he => Q1z h.bs h.sn (by decide) k hk he)
 exact ⟨by rw [← Qc8 h.len (u := vB')]; exact hb.set_ 19 vB', Q0u hs h.gs _, Q0u hw h.gw _, Q0u ho hne _, h.len, h.hg⟩
theorem MSt.words_ (h : MSt w B g vR vC vM vB vS vW bases M) {vW' : Value} {ws : List Int} (hg : w.grownBy w' vW.ownBlock) (ho : w'.ownsRow B 2 1 vW' ws.length (ws.map (Value.int .i64))) :
  MSt (w'.setCell ⟨g, 17, none⟩ vW') B g vR vC vM vB vS vW' bases { M with words := ws } := by
 have hb := h.box.grown hg h.gw
 have hne : some g ≠ vW'.ownBlock := Q0d ho hb (by decide)
 have hbs := Q1d h.bs hg (fun k hk he => Q1z h.ws h.bs (by decide) k hk he)
 have hs := Q1d h.sn hg (fun k hk he => Q1z h.ws h.sn (by decide) k hk he)
 exact ⟨by rw [← Qc1 h.len (u := vW')]; exact hb.set_ 17 vW', Q0u hs h.gs _, Q0u ho hne _, Q0u hbs h.gb _, h.len, h.hg⟩
end
def Qej (p : Q00) (m : List (List Int)) (vR vC : Value) (w : World) (e : Ending) (w' : World) : Prop :=
 ∃ g vB vW, e = .returned (.pointer (some ⟨g, 0, none⟩)) ∧ MSt w' w.heap.size g vR vC (.slice none 0 0) vB (.slice none 0 0) vW (Q10 p) (Q04 m.flatten) ∧ Ext w w'
def bsTo (p : Q00) (j : Nat) : List Int := (List.range j).map fun k => (Q07 p k : Int)
set_option maxRecDepth 100000 in
set_option maxHeartbeats 4000000 in
theorem Qe4 (p : Q00) (m : List (List Int)) (vR vC vm : Value) (w : World) (hm : Q1v w vm m) (hf : Q2e p m = true) (hr : Q0l p.regs = true) :
  Calls Try.prog 18 #[.agg #[vR, vC], vm] w (Qej p m vR vC w) := by
 obtain ⟨hl1, hl2⟩ := Q6h hf
 have hlen := Q4b hr
 have htt := Q4p hr
 have Hft := Lib.hid (Q8r hf)
 obtain ⟨oa, cap, b, o, rfl, hc1, hc2, vs0, hrow, hin⟩ := hm
 have hix := index_mem' (cap := cap) hrow.at_
 have Hrow := Lib.hid hrow
 have Hin := Lib.hid hin
 have Hl2 := Lib.hid hl2
 have Hr := Lib.hid hr
 have Hl1 := Lib.hid hl1
 have hm6 : m.length ≤ 6 := by omega
 obtain ⟨i0, hi0, hz0, hz1, hz2⟩ := info_parts Q5a
 obtain ⟨j0, hj0, hy0, hy1, hy2⟩ := info_parts Qd3
 clear hrow hin hc1 hc2 hl2 hr hl1 hlen
 go_enter Try.func18, Try.ntmps18
 go_wp2_with fail
 obtain ⟨W, gp, hg, hW, hx, bP, bM⟩ := Q41 w #[vR, vC] #[vR, vC, .int .i64 0, .int .i64 0, .int .i64 0, .slice none 0 0, .slice none 0 0, .int .i64 0, .int .i64 0, .int .i64 0, .int .i64 0, .int .i64 0, .int .i64 0, .int .i64 0, .int .i64 0, .int .i64 0, .int .i64 0, .slice none 0 0, .int .i64 0, .slice none 0 0] 25 63
 rw [hW, hg]
 have X := Lib.hid hx
 have P0 : MSt W w.heap.size (gp + 1) vR vC (.slice none 0 0) (.slice none 0 0) (.slice none 0 0) (.slice none 0 0) (bsTo p 0) { Q04 [] with words := (m.take 0).flatten } :=
  ⟨bM, World.ownsRow_nil _ _ _ _, World.ownsRow_nil _ _ _ _, World.ownsRow_nil _ _ _ _, rfl, by omega⟩
 clear hW hg hx bP bM
 generalize gp + 1 = g at *
 go_loopw [13] (fun i wr => ∃ (j : Nat) (vB vW : Value), j ≤ m.length ∧ i = .int .i64 j ∧ MSt wr w.heap.size g vR vC (.slice none 0 0) vB (.slice none 0 0) vW (bsTo p j) { Q04 [] with words := (m.take j).flatten } ∧ Ext w wr) (fun i _ => m.length - (intOf i).toNat)
 case atStart => exact ⟨0, _, _, by omega, rfl, P0, X.out⟩
 case round =>
  obtain ⟨j, vB, vW, hj, rfl, P, hE⟩ := hrel
  have X := Lib.hid hE
  have PP := Lib.hid P
  have hgl := P.box.lt
  have hwl : ((m.take j).flatten).length = Q07 p j := Hft.out j (by rw [← Hl1.out]; omega)
  have hbl := Qe7 p j
  clear hE P
  by_cases hlt : j < m.length
  ·have e0 := (Hrow.out.ext X.out).one j hlt
   have h1 := Hin.out j hlt
   have hlj := Hl2.out j (by rw [← Hl1.out]; omega)
   have hw6 : Q09 (p.regs.getD j default) ≤ 64 := Q4o _ (Q4x Hr.out _ (Q1s (by rw [← Hl1.out]; omega))).2
   have Hnext : Hid ((m.take (j + 1)).flatten = (m.take j).flatten ++ m.getD j default) := Lib.hid (by
    rw [List.take_succ_eq_append_getElem hlt, List.flatten_append]
    simp [hlt])
   have Hbs : Hid (bsTo p (j + 1) = bsTo p j ++ [(Q07 p j : Int)]) := Lib.hid (by simp [bsTo, List.range_succ])
   have hbsl : (bsTo p j).length = j := by simp [bsTo]
   generalize m.getD j default = l at *
   generalize vs0 j = vl at *
   obtain ⟨-, ol, lcap, lb, lo, rfl, hl3, hl4, hlr⟩ := h1
   have Hlr := Lib.hid hlr
   rw [hlj] at e0
   generalize Q09 (p.regs.getD j default) = L at *
   obtain ⟨-, -, -, -, -, -, -, g17, -, g19⟩ := PP.out.cells
   obtain ⟨ob, obc, rfl⟩ := Q14 PP.out.bs
   obtain ⟨ow, owc, rfl⟩ := Q14 PP.out.ws
   have Hwl := Lib.hid hwl
   rw [hbsl] at g19
   simp only [hwl] at g17
   clear hlr hl3 hl4
   go_upto_region 5 with fail
   have k17 : ∀ W, Ext wr W → W.cell? ⟨g, 17, none⟩ = some (.slice ow (Q07 p j) owc) := fun _ h => h.kept g17.1
   have k19 : ∀ W, Ext wr W → W.cell? ⟨g, 19, none⟩ = some (.slice ob j obc) := fun _ h => h.kept g19.1
   refine Q1x [11, 12, 13, 14, 15] 1 (by kernel_rfl) (by kernel_rfl) ?_
   repeat (first | (refine Q2a ?_ ?_; (decide)) | (refine Q21 ?_ ?_ ?_; (decide); (first | rfl | (focus (go_simp; done))); apply Exists.intro; refine ⟨fun wc hE => ?_, ?_⟩; (go_simp; exact rfl); go_simp) | (refine Q28 ?_ ?_ ?_; (decide); (focus (go_simp; done)); go_simp))
   refine Q29 ?_
   intro w2 hx
   have X2 := Lib.hid hx
   clear k17 k19
   refine Q30 rfl ?_
   go_wp2
   have PB := PP.out.ext (X2.out.alloc (.cells #[.int .i64 (Q07 p j : Int)] 3))
   have X3 := Lib.hid (X.out.trans (X2.out.alloc (.cells #[.int .i64 (Q07 p j : Int)] 3)))
   refine ⟨X2.out.alloc _, ?_⟩
   refine Q1h (Q08 rfl (Q08 rfl (Q08 rfl (Q08 rfl (Q1q))))) ?_
   have hbo := PB.bs
   rw [hbsl] at hbo
   refine Q3f _ rfl _ _ 27 rfl w.heap.size 3 j0 _ 1 8 Try.underlying27 hj0 hy0 hy1 hy2 rfl (by decide) _ _ _ rfl hbo (some ⟨w2.heap.size, 0, none⟩) 1 1 [.int .i64 (Q07 p j : Int)] rfl ?c1 ?c3 ?c4 ?c5 ?_
   case c1 => exact Q4t (size := 1) (Blk.new w2 3 #[.int .i64 (Q07 p j : Int)]) rfl (by simp [Value.oneCell'])
   case c3 => unfold maxLen; omega
   case c4 => omega
   case c5 => exact X3.out.size
   intro v1 w3 hown hgrow hat
   clear hat
   obtain ⟨o3, c3, rfl⟩ := Q14 hown
   have hgrow : (w2.alloc (.cells #[.int .i64 (Q07 p j : Int)] 3)).grownBy w3 (Value.slice ob (bsTo p j).length obc).ownBlock := by
    rw [hbsl]; exact hgrow
   have hb3 := PB.box.grown hgrow PB.gb
   have p19 : w3.cell? ⟨g, 19, none⟩ = some (.slice ob j obc) ∧ w3.frozen? ⟨g, 19, none⟩ = false := ⟨by rw [hb3.cell]; simp [Q05, Q04, hbsl], hb3.frozen 19⟩
   have p17 : w3.cell? ⟨g, 17, none⟩ = some (.slice ow (Q07 p j) owc) ∧ w3.frozen? ⟨g, 17, none⟩ = false := ⟨by rw [hb3.cell]; simp [Q05, Q04, Hwl.out], hb3.frozen 17⟩
   have P3 := PB.bases_ (bs := bsTo p j ++ [(Q07 p j : Int)]) (vB' := .slice o3 (j + 1) c3) hgrow (by simpa [hbsl] using hown)
   have X3 := Lib.hid (((X3.out.grown hgrow (Q2c PB.bs))).setCell (p := ⟨g, 19, none⟩) PB.hg (.slice o3 (j + 1) c3))
   have hwo : (w3.setCell ⟨g, 19, none⟩ (.slice o3 (j + 1) c3)).ownsRow w.heap.size 2 1 (.slice ow (Q07 p j) owc) (Q07 p j) (((m.take j).flatten).map (Value.int .i64)) := by
    have := P3.ws
    simp only [Hwl.out] at this
    exact this
   have P3 := Lib.hid P3
   have Hsrc : Hid (Src (w3.setCell ⟨g, 19, none⟩ (.slice o3 (j + 1) c3)) 1 ol L (l.map (Value.int .i64))) := Lib.hid (by
    have := Q7a .i64 (Hlr.out.ext X3.out)
    rw [hlj] at this
    exact this)
   clear g17 g19 hb3 hown hgrow PB hbo
   have hg3 := P3.out.box.lt
   go_wp2_with (at_builtin; refine Q3f _ rfl _ _ 57 rfl w.heap.size 2 i0 _ 1 8 Try.underlying57 hi0 hz0 hz1 hz2 rfl (by decide) _ _ _ rfl hwo ol L lcap (l.map (Value.int .i64)) rfl ?d1 ?d3 ?d4 ?d5 ?_)
   case d1 => exact Hsrc.out
   case d3 => unfold maxLen; omega
   case d4 => omega
   case d5 => exact X3.out.size
   intro v2 w4 hown2 hgrow2 hat2
   clear hat2
   obtain ⟨o4, c4, rfl⟩ := Q14 hown2
   have hgr : (w3.setCell ⟨g, 19, none⟩ (.slice o3 (j + 1) c3)).grownBy w4 (Value.slice ow ({ Q04 [] with words := (m.take j).flatten } : Mach).words.length owc).ownBlock := by
    simp only [Hwl.out]; exact hgrow2
   have hb4 := P3.out.box.grown hgr P3.out.gw
   have q17 : w4.cell? ⟨g, 17, none⟩ = some (.slice ow (Q07 p j) owc) ∧ w4.frozen? ⟨g, 17, none⟩ = false := ⟨by rw [hb4.cell]; simp [Q05, Q04, Hwl.out], hb4.frozen 17⟩
   have P4 := Lib.hid (P3.out.words_ (ws := (m.take j).flatten ++ l) (vW' := .slice o4 (Q07 p j + L) c4) hgr (by simpa [Hwl.out, hlj] using hown2))
   have X4 := Lib.hid ((X3.out.grown hgrow2 (Q2c hwo)).setCell (p := ⟨g, 17, none⟩) P3.out.hg (.slice o4 (Q07 p j + L) c4))
   clear hb4 hgr hown2 hgrow2 hwo p17 p19
   go_wp2
   go_roundw
   case rel => exact ⟨j + 1, _, _, by omega, by go_num, by rw [Hbs.out, Hnext.out]; exact P4.out, X4.out⟩
   case measure => first | (simp [intOf]; done) | (simp [intOf]; omega)
  ·have hje : j = m.length := by omega
   subst hje
   have hlt2 : decide ((m.length : Int) < (m.length : Int)) = false := by simp
   have HB : Hid (bsTo p m.length = Q10 p) := Lib.hid (by rw [Hl1.out]; rfl)
   have HF : Hid ((m.take m.length).flatten = m.flatten) := Lib.hid (by rw [List.take_length])
   go_wp2
   go_ret
   refine ⟨g, vB, vW, rfl, ?_, X.out⟩
   have := PP.out
   rw [HB.out, HF.out] at this
   exact this
end Go.Proofs.Ytceocimckkgaoaa
