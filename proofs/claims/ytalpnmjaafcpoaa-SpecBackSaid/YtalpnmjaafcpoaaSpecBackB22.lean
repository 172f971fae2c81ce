/- Laid together from: Seq2, Play1, Play2, Play3, Play4, Seq3. -/
import Derived.Test.YtalpnmjaafcpoaaSpecBackB21

namespace Go.Proofs.Ytalpnmjaafcpoaa
open Go.ChangeShapes Go.WideShapes Go.ChangeAt Go.RowKit
set_option linter.unusedVariables false
set_option linter.unusedSimpArgs false
theorem Q1s (g : Nat) (W : World) (i : Int) (h0 : 0 ≤ i) (h1 : i < 10) :
  (Instr.indexAt 51 (.pointer (some ⟨g, 7, none⟩)) (.int .i64 i)).run Try.prog W = .ok (.pointer (some ⟨g, 7 + i.toNat, none⟩)) W := by
 have hs : (Try.prog.info? 2).map (·.size) = some 1 := by kernel_rfl
 simp [Instr.indexAt, run_underlying Try.underlying51, asIntOf, Instr.sureAddr, h0, h1]
 exact Q31 g 7 _
set_option maxHeartbeats 2000000 in
theorem Q2k {B g : Nat} {vR vC vM vB vS vW : Value} {bases : List Int} {M : Mach} (w : World) (h : MSt w B g vR vC vM vB vS vW bases M) (kind a b : Int) (hl : M.seen.length ≤ 1000000) :
  Calls Try.prog 35 #[.pointer (some ⟨g, 0, none⟩), .int .i64 kind, .int .i64 a, .int .i64 b] w fun e w' => e = .returned (.tuple #[]) ∧ Q5w w w' B g vR vC vM vB vS vW bases { M with seen := M.seen ++ [⟨kind, a, b⟩] } := by
 obtain ⟨-, -, -, -, -, g5, -⟩ := h.cells
 obtain ⟨i0', hi0', hz0', hz1', hz2'⟩ := info_parts Qdq
 have hgl := h.box.lt
 have P := Lib.hid h
 obtain ⟨ov, ovc, rfl⟩ := Q0x h.sn
 clear h
 go_enter Try.func35, Try.ntmps35
 go_wp2_with (at_builtin; refine Q3l _ rfl _ _ 28 rfl B 79 i0' _ 3 24 Try.underlying28 hi0' hz0' hz1' hz2' rfl (by decide) _ _ _ rfl (Q6f P.out.sn) (some ⟨w.heap.size, 0, none⟩) 1 1 (Q2x ⟨kind, a, b⟩) rfl ?c1 ?c3 ?c4 ?c5 ?_)
 case c1 => exact Q54 (size := 3) (Blk.new w 79 #[.int .i64 kind, .int .i64 a, .int .i64 b]) rfl (by simp [Value.oneCell'])
 case c3 => unfold maxLen; omega
 case c4 => omega
 case c5 => have := P.out.size; simp; omega
 intro vS' w3 hown hgrow hat
 obtain ⟨ow, owc, rfl⟩ := Q0x hown
 have hx := (Ext.refl w).alloc (.cells #[.int .i64 kind, .int .i64 a, .int .i64 b] 79)
 have P1 := P.out.ext hx
 have p5 : w3.cell? ⟨g, 5, none⟩ = some (.slice ov M.seen.length ovc) ∧ w3.frozen? ⟨g, 5, none⟩ = false := by
  have hb := P1.box.grown hgrow P1.gs
  exact ⟨by rw [hb.cell]; simp [Q09], hb.frozen 5⟩
 have P2 := Lib.hid (P1.show_ (s := M.seen ++ [⟨kind, a, b⟩]) (vS' := .slice ow (M.seen.length + 1) owc) hgrow (by simpa using hown))
 have HT : Hid (Turn (fun j => j = g ∨ (Value.slice ov M.seen.length ovc).ownBlock = some j) w (w3.setCell ⟨g, 5, none⟩ (.slice ow (M.seen.length + 1) owc))) := Lib.hid
  (((Turn.ofExt hx).trans (Turn.grown hgrow) (fun j _ e => .inr e)).trans (Turn.set _ _ _) (fun j _ e => .inl e))
 have Hat : Hid (∀ j, (Value.slice ow (M.seen.length + 1) owc).ownBlock = some j → (Value.slice ov M.seen.length ovc).ownBlock = some j ∨ w.heap.size ≤ j) := Lib.hid (by
  intro j hj
  rcases hat with hat | hat
  ·rw [hat] at hj; exact .inl hj
  ·rw [hat] at hj
   simp only [Option.some.injEq] at hj
   have := hx.size
   exact .inr (by omega))
 clear hown hgrow hat hx P1 g5
 go_wp2
 refine bodyPost_end (results_none rfl _ _ _) rfl ?_
 exact ⟨rfl, _, P2.out, HT.out, Hat.out⟩
theorem Q47 {B g : Nat} {vR vC vM vB vS vW : Value} {bases : List Int} {M : Mach} (w : World) (h : MSt w B g vR vC vM vB vS vW bases M) (i : LIns) (hb : okIn 10 i.b = true) :
  Calls Try.prog 57 #[.pointer (some ⟨g, 0, none⟩), insV i] w fun e w' => e = .returned (.int .i64 (Q0p M.regs i)) ∧ Ext w w' := by
 obtain ⟨rb, -⟩ := h.reg hb
 obtain ⟨op, a, b, c, n⟩ := i
 simp only at hb rb
 obtain ⟨b0, b1⟩ := Q0u.1 hb
 have hgl := h.box.lt
 unfold insV
 simp only
 clear h
 by_cases h5 : op = 5
 ·subst h5
  go_enter Try.func57, Try.ntmps57
  go_wp2
  go_ret
  exact ⟨Q2g (by simp [Q0p]), (Ext.refl _).alloc _⟩
 by_cases h6 : op = 6
 ·subst h6
  go_enter Try.func57, Try.ntmps57
  go_wp2
  go_ret
  exact ⟨Q2g (by simp [Q0p]), (Ext.refl _).alloc _⟩
 have Hv : Hid (Q0p M.regs ⟨op, a, b, c, n⟩ = wrap64 (rg M.regs b + n)) := Lib.hid (by unfold Q0p; rw [if_neg (by simp only; omega)])
 have e5 : (op == 5) = false := by simpa using h5
 have e6 : (op == 6) = false := by simpa using h6
 have hix := Q1s
 clear h5 h6
 go_enter Try.func57, Try.ntmps57
 go_upto_region 3 with fail
 obtain ⟨w0, e, he, hW, hs0, hx0, c0, c1, c2, c3, c4⟩ := new5 w 71 (.int .i64 op) (.int .i64 a) (.int .i64 b) (.int .i64 c) (.int .i64 n)
 rw [hW, he]
 have k0 : ∀ W, Ext w0 W → W.cell? ⟨e, 2, none⟩ = some (.int .i64 b) := fun _ h => h.kept c2
 have k1 : ∀ W, Ext w0 W → W.cell? ⟨e, 4, none⟩ = some (.int .i64 n) := fun _ h => h.kept c4
 have k2 : ∀ W, Ext w0 W → W.cell? ⟨g, 7 + b.toNat, none⟩ = some (.int .i64 (rg M.regs b)) := fun _ h => h.kept (hx0.kept rb)
 have X := Lib.hid hx0
 clear hW he hs0 hx0 c0 c1 c2 c3 c4 rb
 refine Q0t 12 (by kernel_rfl) (by kernel_rfl) ?_
 simp only [List.take_succ_cons, List.take_zero, List.drop_succ_cons, List.drop_zero]
 repeat (first | (refine Q0g ?_ ?_ (fun wc hE => ?_) ?_; (decide); rfl; (focus (go_simp; done)); go_simp) | (refine Q0a ?_ ?_ ?_; (decide); (first | rfl | (focus (go_simp; done))); apply Exists.intro; refine ⟨fun wc hE => ?_, ?_⟩; (go_simp; exact rfl); go_simp) | (refine Q0h ?_ ?_ ?_; (decide); (first | rfl | (focus (go_simp; done))); apply Exists.intro; refine ⟨fun wc hE => ?_, ?_⟩; (go_simp; (first | fail)); go_simp) | (refine Q0e ?_ ?_ ?_; (decide); (focus (go_simp; done)); go_simp))
 refine Q0f ?_
 intro wx hx
 have X := Lib.hid (X.out.trans hx)
 clear hx k0 k1 k2
 go_wp2
 go_ret
 exact ⟨Q2g (by rw [Hv.out, IntKind.wrap_i64]; unfold wrap64; rfl), X.out⟩
theorem Q3s (i : LIns) (w : World) :
  Calls Try.prog 37 #[insV i] w fun e w' => e = .returned (.bool (Q08 i)) ∧ Ext w w' := by
 obtain ⟨op, a, b, c, n⟩ := i
 unfold insV
 simp only
 by_cases h1 : op = 4
 ·subst h1
  go_enter Try.func37, Try.ntmps37
  go_wp2
  go_ret
  exact ⟨Q27 (by simp [Q08]), (Ext.refl _).alloc _⟩
 by_cases h2 : op = 6
 ·subst h2
  go_enter Try.func37, Try.ntmps37
  go_wp2
  go_ret
  exact ⟨Q27 (by simp [Q08]), (Ext.refl _).alloc _⟩
 have e1 : (op == 4) = false := by simpa using h1
 have e2 : (op == 6) = false := by simpa using h2
 have Hv : Hid (Q08 ⟨op, a, b, c, n⟩ = false) := Lib.hid (by simp [Q08, h1, h2])
 clear h1 h2
 go_enter Try.func37, Try.ntmps37
 go_wp2
 go_ret
 exact ⟨Q27 Hv.out.symm, (Ext.refl _).alloc _⟩
theorem Q51 (i : LIns) (w : World) :
  Calls Try.prog 38 #[insV i] w fun e w' => e = .returned (.bool (Q14 i)) ∧ Ext w w' := by
 obtain ⟨op, a, b, c, n⟩ := i
 unfold insV
 simp only
 by_cases h1 : op = 3
 ·subst h1
  go_enter Try.func38, Try.ntmps38
  go_wp2
  go_ret
  exact ⟨Q27 (by simp [Q14]), (Ext.refl _).alloc _⟩
 by_cases h2 : op = 5
 ·subst h2
  go_enter Try.func38, Try.ntmps38
  go_wp2
  go_ret
  exact ⟨Q27 (by simp [Q14]), (Ext.refl _).alloc _⟩
 have e1 : (op == 3) = false := by simpa using h1
 have e2 : (op == 5) = false := by simpa using h2
 have Hv : Hid (Q14 ⟨op, a, b, c, n⟩ = false) := Lib.hid (by simp [Q14, h1, h2])
 clear h1 h2
 go_enter Try.func38, Try.ntmps38
 go_wp2
 go_ret
 exact ⟨Q27 Hv.out.symm, (Ext.refl _).alloc _⟩
theorem Q97 {B g : Nat} {vR vC vM vB vS vW : Value} {bases : List Int} {M : Mach} (w : World) (h : MSt w B g vR vC vM vB vS vW bases M) (p : Q00) (hR : Q2u w vR p.regs) (hr : Q0k p.regs = true) (c x : Int) (h0 : 0 ≤ c) (h1 : c.toNat < p.regs.length) :
  Calls Try.prog 58 #[.pointer (some ⟨g, 0, none⟩), .int .i64 c, .int .i64 x] w fun e w' => e = .returned (.bool (decide (0 ≤ x) && decide (x < (Q0b (p.regs.getD c.toNat default) : Nat)))) ∧ Ext w w' := by
 obtain ⟨g0, -⟩ := h.cells
 obtain ⟨-, oa, cap, b, o, rfl, hc1, hc2, hrow⟩ := hR
 have hix := Q46 (cap := cap) hrow.at_
 obtain ⟨e0, e1⟩ := hrow.reg c.toNat h1
 have hlog := Q4m hr _ (Q1f h1)
 have hlen := Q3z hr
 have hw6 : Q0b (p.regs.getD c.toNat default) ≤ 64 := Q4c _ hlog.2
 clear hrow h
 have h1' : c < (p.regs.length : Int) := by omega
 generalize p.regs.getD c.toNat default = r at *
 by_cases hx0 : 0 ≤ x
 ·go_enter Try.func58, Try.ntmps58
  go_wp2_with fail
  (with_reducible refine (Q4d r hlog.1 hlog.2 w).mono ?_)
  rintro e w1 ⟨rfl, hx⟩
  go_wp2
  go_ret
  exact ⟨Q27 (by simp [hx0]), hx⟩
 ·have hd : decide (0 ≤ x) = false := by simpa using hx0
  go_enter Try.func58, Try.ntmps58
  go_wp2
  go_ret
  exact ⟨Q27 (by simp [hx0]), Ext.refl _⟩
def Q2f (w : World) (B g : Nat) (vR vC vM vB vS vW : Value) (bases : List Int) (M : Mach) (i : LIns) (e : Ending) (w' : World) : Prop :=
 e = .returned (.tuple #[]) ∧ Q5w w w' B g vR vC vM vB vS vW bases { M with regs := Q12 M.regs i, seen := M.seen ++ Q1b M.regs i }
section
variable {B g : Nat} {vR vC vM vB vS vW : Value} {bases : List Int} {M : Mach} {w w1 : World} {i : LIns}
theorem Q41 {a x : Int} (ha : okIn 10 a = true) (h : MSt w B g vR vC vM vB vS vW bases M) (hs : Q1b M.regs i = []) (hr : Q12 M.regs i = rset M.regs a x) (hx : Ext w w1) :
  Q2f w B g vR vC vM vB vS vW bases M i (.returned (.tuple #[])) (w1.setCell ⟨g, 7 + a.toNat, none⟩ (.int .i64 x)) := by
 refine ⟨rfl, vS, ?_, (Turn.ofExt hx).trans (Turn.set _ _ _) (fun j _ e => .inl e), fun _ e => .inl e⟩
 rw [hs, hr, List.append_nil]
 exact (h.ext hx).reg_ ha x
theorem Q8k (h : MSt w B g vR vC vM vB vS vW bases M) (hs : Q1b M.regs i = []) (hr : Q12 M.regs i = M.regs) (hx : Ext w w1) :
  Q2f w B g vR vC vM vB vS vW bases M i (.returned (.tuple #[])) w1 := by
 refine ⟨rfl, vS, ?_, Turn.ofExt hx, fun _ e => .inl e⟩
 rw [hs, hr, List.append_nil]
 exact h.ext hx
end
set_option maxRecDepth 100000 in
set_option maxHeartbeats 2000000 in
theorem Qby {B g : Nat} {vR vC vM vB vS vW : Value} {bases : List Int} {M : Mach} (a b c n : Int) (h64 : Q0z M.regs) (ha : okIn 10 a = true) (hsn : M.seen.length ≤ 1000000) (w : World) (h : MSt w B g vR vC vM vB vS vW bases M) :
  Calls Try.prog 40 #[.pointer (some ⟨g, 0, none⟩), insV ⟨1, a, b, c, n⟩] w (Q2f w B g vR vC vM vB vS vW bases M ⟨1, a, b, c, n⟩) := by
 unfold insV
 simp only
 have hgl := h.box.lt
 have H := Lib.hid h
 obtain ⟨ra, fa⟩ := h.reg ha
 obtain ⟨a0, a1⟩ := Q0u.1 ha
 have hix := Q1s
 clear h
 go_enter Try.func40, Try.ntmps40
 go_upto_region 8 with fail
 obtain ⟨w0, e, he, hW, hs0, hx0, c0, c1, c2, c3, c4⟩ := new5 w 71 (.int .i64 1) (.int .i64 a) (.int .i64 b) (.int .i64 c) (.int .i64 n)
 rw [hW, he]
 have k1 : ∀ W, Ext w0 W → W.cell? ⟨e, 1, none⟩ = some (.int .i64 a) := fun _ h => h.kept c1
 have k4 : ∀ W, Ext w0 W → W.cell? ⟨e, 4, none⟩ = some (.int .i64 n) := fun _ h => h.kept c4
 have rr := Q07 hx0 ⟨ra, fa⟩
 have X := Lib.hid hx0
 clear hW he hs0 hx0 c0 c1 c2 c3 c4 ra fa
 refine Q0t 6 (by kernel_rfl) (by kernel_rfl) ?_
 simp only [List.take_succ_cons, List.take_zero, List.drop_succ_cons, List.drop_zero]
 repeat (first | (refine Q0g ?_ ?_ (fun wc hE => ?_) ?_; (decide); rfl; (focus (go_simp; done)); go_simp) | (refine Q0a ?_ ?_ ?_; (decide); (first | rfl | (focus (go_simp; done))); apply Exists.intro; refine ⟨fun wc hE => ?_, ?_⟩; (go_simp; exact rfl); go_simp) | (refine Q0h ?_ ?_ ?_; (decide); (first | rfl | (focus (go_simp; done))); apply Exists.intro; refine ⟨fun wc hE => ?_, ?_⟩; (go_simp; (first | fail)); go_simp) | (refine Q0e ?_ ?_ ?_; (decide); (focus (go_simp; done)); go_simp))
 refine Q0f ?_
 intro wx hx
 have X := Lib.hid (X.out.trans hx)
 have rr := Q07 hx rr
 clear hx k1 k4
 go_wp2
 refine bodyPost_end (results_none rfl _ _ _) rfl ?_
 exact Q41 (x := n) ha H.out (Q39 (by simp)) rfl X.out
set_option maxRecDepth 100000 in
set_option maxHeartbeats 2000000 in
theorem Qc1 {B g : Nat} {vR vC vM vB vS vW : Value} {bases : List Int} {M : Mach} (a b c n : Int) (h64 : Q0z M.regs) (ha : okIn 10 a = true) (hb : okIn 10 b = true) (hsn : M.seen.length ≤ 1000000) (w : World) (h : MSt w B g vR vC vM vB vS vW bases M) :
  Calls Try.prog 40 #[.pointer (some ⟨g, 0, none⟩), insV ⟨2, a, b, c, n⟩] w (Q2f w B g vR vC vM vB vS vW bases M ⟨2, a, b, c, n⟩) := by
 unfold insV
 simp only
 have hgl := h.box.lt
 have H := Lib.hid h
 obtain ⟨ra, fa⟩ := h.reg ha
 obtain ⟨a0, a1⟩ := Q0u.1 ha
 obtain ⟨rb, fb⟩ := h.reg hb
 obtain ⟨b0, b1⟩ := Q0u.1 hb
 have hix := Q1s
 clear h
 go_enter Try.func40, Try.ntmps40
 go_upto_region 10 with fail
 obtain ⟨w0, e, he, hW, hs0, hx0, c0, c1, c2, c3, c4⟩ := new5 w 71 (.int .i64 2) (.int .i64 a) (.int .i64 b) (.int .i64 c) (.int .i64 n)
 rw [hW, he]
 have k1 : ∀ W, Ext w0 W → W.cell? ⟨e, 1, none⟩ = some (.int .i64 a) := fun _ h => h.kept c1
 have k2 : ∀ W, Ext w0 W → W.cell? ⟨e, 2, none⟩ = some (.int .i64 b) := fun _ h => h.kept c2
 have mb : ∀ W, Ext w0 W → W.cell? ⟨g, 7 + b.toNat, none⟩ = some (.int .i64 (rg M.regs b)) := fun _ h => h.kept (hx0.kept rb)
 have rr := Q07 hx0 ⟨ra, fa⟩
 have X := Lib.hid hx0
 clear hW he hs0 hx0 c0 c1 c2 c3 c4 ra fa rb fb
 refine Q0t 11 (by kernel_rfl) (by kernel_rfl) ?_
 simp only [List.take_succ_cons, List.take_zero, List.drop_succ_cons, List.drop_zero]
 repeat (first | (refine Q0g ?_ ?_ (fun wc hE => ?_) ?_; (decide); rfl; (focus (go_simp; done)); go_simp) | (refine Q0a ?_ ?_ ?_; (decide); (first | rfl | (focus (go_simp; done))); apply Exists.intro; refine ⟨fun wc hE => ?_, ?_⟩; (go_simp; exact rfl); go_simp) | (refine Q0h ?_ ?_ ?_; (decide); (first | rfl | (focus (go_simp; done))); apply Exists.intro; refine ⟨fun wc hE => ?_, ?_⟩; (go_simp; (first | fail)); go_simp) | (refine Q0e ?_ ?_ ?_; (decide); (focus (go_simp; done)); go_simp))
 refine Q0f ?_
 intro wx hx
 have X := Lib.hid (X.out.trans hx)
 have rr := Q07 hx rr
 clear hx k1 k2 mb
 go_wp2
 refine bodyPost_end (results_none rfl _ _ _) rfl ?_
 exact Q41 (x := rg M.regs b) ha H.out (Q39 (by simp)) rfl X.out
set_option maxRecDepth 100000 in
set_option maxHeartbeats 2000000 in
theorem Qc4 {B g : Nat} {vR vC vM vB vS vW : Value} {bases : List Int} {M : Mach} (a b c n : Int) (h64 : Q0z M.regs) (ha : okIn 10 a = true) (hb : okIn 10 b = true) (hsn : M.seen.length ≤ 1000000) (w : World) (h : MSt w B g vR vC vM vB vS vW bases M) :
  Calls Try.prog 40 #[.pointer (some ⟨g, 0, none⟩), insV ⟨10, a, b, c, n⟩] w (Q2f w B g vR vC vM vB vS vW bases M ⟨10, a, b, c, n⟩) := by
 unfold insV
 simp only
 have hgl := h.box.lt
 have H := Lib.hid h
 obtain ⟨ra, fa⟩ := h.reg ha
 obtain ⟨a0, a1⟩ := Q0u.1 ha
 obtain ⟨rb, fb⟩ := h.reg hb
 obtain ⟨b0, b1⟩ := Q0u.1 hb
 have hix := Q1s
 clear h
 go_enter Try.func40, Try.ntmps40
 go_upto_region 12 with fail
 obtain ⟨w0, e, he, hW, hs0, hx0, c0, c1, c2, c3, c4⟩ := new5 w 71 (.int .i64 10) (.int .i64 a) (.int .i64 b) (.int .i64 c) (.int .i64 n)
 rw [hW, he]
 have k1 : ∀ W, Ext w0 W → W.cell? ⟨e, 1, none⟩ = some (.int .i64 a) := fun _ h => h.kept c1
 have k2 : ∀ W, Ext w0 W → W.cell? ⟨e, 2, none⟩ = some (.int .i64 b) := fun _ h => h.kept c2
 have k4 : ∀ W, Ext w0 W → W.cell? ⟨e, 4, none⟩ = some (.int .i64 n) := fun _ h => h.kept c4
 have mb : ∀ W, Ext w0 W → W.cell? ⟨g, 7 + b.toNat, none⟩ = some (.int .i64 (rg M.regs b)) := fun _ h => h.kept (hx0.kept rb)
 have rr := Q07 hx0 ⟨ra, fa⟩
 have X := Lib.hid hx0
 clear hW he hs0 hx0 c0 c1 c2 c3 c4 ra fa rb fb
 refine Q0t 14 (by kernel_rfl) (by kernel_rfl) ?_
 simp only [List.take_succ_cons, List.take_zero, List.drop_succ_cons, List.drop_zero]
 repeat (first | (refine Q0g ?_ ?_ (fun wc hE => ?_) ?_; (decide); rfl; (focus (go_simp; done)); go_simp) | (refine Q0a ?_ ?_ ?_; (decide); (first | rfl | (focus (go_simp; done))); apply Exists.intro; refine ⟨fun wc hE => ?_, ?_⟩; (go_simp; exact rfl); go_simp) | (refine Q0h ?_ ?_ ?_; (decide); (first | rfl | (focus (go_simp; done))); apply Exists.intro; refine ⟨fun wc hE => ?_, ?_⟩; (go_simp; (first | fail)); go_simp) | (refine Q0e ?_ ?_ ?_; (decide); (focus (go_simp; done)); go_simp))
 refine Q0f ?_
 intro wx hx
 have X := Lib.hid (X.out.trans hx)
 have rr := Q07 hx rr
 clear hx k1 k2 k4 mb
 go_wp2
 refine bodyPost_end (results_none rfl _ _ _) rfl ?_
 try rw [show IntKind.i64.wrap (rg M.regs b + n) = wrap64 (rg M.regs b + n) by rw [IntKind.wrap_i64]; unfold wrap64; rfl]
 exact Q41 (x := wrap64 (rg M.regs b + n)) ha H.out (Q39 (by simp)) rfl X.out
set_option maxRecDepth 100000 in
set_option maxHeartbeats 2000000 in
theorem Qc2 {B g : Nat} {vR vC vM vB vS vW : Value} {bases : List Int} {M : Mach} (a b c n : Int) (h64 : Q0z M.regs) (ha : okIn 10 a = true) (hsn : M.seen.length ≤ 1000000) (w : World) (h : MSt w B g vR vC vM vB vS vW bases M) :
  Calls Try.prog 40 #[.pointer (some ⟨g, 0, none⟩), insV ⟨11, a, b, c, n⟩] w (Q2f w B g vR vC vM vB vS vW bases M ⟨11, a, b, c, n⟩) := by
 unfold insV
 simp only
 have hgl := h.box.lt
 have H := Lib.hid h
 obtain ⟨ra, fa⟩ := h.reg ha
 obtain ⟨a0, a1⟩ := Q0u.1 ha
 have hix := Q1s
 clear h
 by_cases hneg : rg M.regs a < 0
 ·have Hr : Hid (Q12 M.regs ⟨11, a, b, c, n⟩ = rset M.regs a 0) := Lib.hid (by simp [Q12, hneg])
  go_enter Try.func40, Try.ntmps40
  go_upto_region 14 with fail
  obtain ⟨w0, e, he, hW, hs0, hx0, c0, c1, c2, c3, c4⟩ := new5 w 71 (.int .i64 11) (.int .i64 a) (.int .i64 b) (.int .i64 c) (.int .i64 n)
  rw [hW, he]
  have k1 : ∀ W, Ext w0 W → W.cell? ⟨e, 1, none⟩ = some (.int .i64 a) := fun _ h => h.kept c1
  have k4 : ∀ W, Ext w0 W → W.cell? ⟨e, 4, none⟩ = some (.int .i64 n) := fun _ h => h.kept c4
  have ma : ∀ W, Ext w0 W → W.cell? ⟨g, 7 + a.toNat, none⟩ = some (.int .i64 (rg M.regs a)) := fun _ h => h.kept (hx0.kept ra)
  have rr := Q07 hx0 ⟨ra, fa⟩
  have X := Lib.hid hx0
  clear hW he hs0 hx0 c0 c2 c3 ra fa
  refine Q0t 18 (by kernel_rfl) (by kernel_rfl) ?_
  simp only [List.take_succ_cons, List.take_zero, List.drop_succ_cons, List.drop_zero]
  repeat (first | (refine Q0g ?_ ?_ (fun wc hE => ?_) ?_; (decide); rfl; (focus (go_simp; done)); go_simp) | (refine Q0a ?_ ?_ ?_; (decide); (first | rfl | (focus (go_simp; done))); apply Exists.intro; refine ⟨fun wc hE => ?_, ?_⟩; (go_simp; exact rfl); go_simp) | (refine Q0h ?_ ?_ ?_; (decide); (first | rfl | (focus (go_simp; done))); apply Exists.intro; refine ⟨fun wc hE => ?_, ?_⟩; (go_simp; (first | fail)); go_simp) | (refine Q0e ?_ ?_ ?_; (decide); (focus (go_simp; done)); go_simp))
  refine Q0f ?_
  intro wx hx
  have X := Lib.hid (X.out.trans hx)
  have rr := Q07 hx rr
  have c1 := hx.kept c1
  clear hx c4 k1 k4 ma
  go_upto_region 15 with fail
  have k1 : ∀ W, Ext wx W → W.cell? ⟨e, 1, none⟩ = some (.int .i64 a) := fun _ h => h.kept c1
  refine Q0t 5 (by kernel_rfl) (by kernel_rfl) ?_
  simp only [List.take_succ_cons, List.take_zero, List.drop_succ_cons, List.drop_zero]
  repeat (first | (refine Q0g ?_ ?_ (fun wc hE => ?_) ?_; (decide); rfl; (focus (go_simp; done)); go_simp) | (refine Q0a ?_ ?_ ?_; (decide); (first | rfl | (focus (go_simp; done))); apply Exists.intro; refine ⟨fun wc hE => ?_, ?_⟩; (go_simp; exact rfl); go_simp) | (refine Q0h ?_ ?_ ?_; (decide); (first | rfl | (focus (go_simp; done))); apply Exists.intro; refine ⟨fun wc hE => ?_, ?_⟩; (go_simp; (first | fail)); go_simp) | (refine Q0e ?_ ?_ ?_; (decide); (focus (go_simp; done)); go_simp))
  refine Q0f ?_
  intro wy hy
  have X := Lib.hid (X.out.trans hy)
  have rr := Q07 hy rr
  clear hy c1 k1
  go_wp2
  refine bodyPost_end (results_none rfl _ _ _) rfl ?_
  exact Q41 (x := 0) ha H.out (Q39 (by simp)) Hr.out X.out
 by_cases hge : n ≤ rg M.regs a
 ·have Hr : Hid (Q12 M.regs ⟨11, a, b, c, n⟩ = rset M.regs a 0) := Lib.hid (by simp [Q12, hge])
  have hn0 : decide (rg M.regs a < 0) = false := by simpa using hneg
  clear hneg
  go_enter Try.func40, Try.ntmps40
  go_upto_region 14 with fail
  obtain ⟨w0, e, he, hW, hs0, hx0, c0, c1, c2, c3, c4⟩ := new5 w 71 (.int .i64 11) (.int .i64 a) (.int .i64 b) (.int .i64 c) (.int .i64 n)
  rw [hW, he]
  have k1 : ∀ W, Ext w0 W → W.cell? ⟨e, 1, none⟩ = some (.int .i64 a) := fun _ h => h.kept c1
  have k4 : ∀ W, Ext w0 W → W.cell? ⟨e, 4, none⟩ = some (.int .i64 n) := fun _ h => h.kept c4
  have ma : ∀ W, Ext w0 W → W.cell? ⟨g, 7 + a.toNat, none⟩ = some (.int .i64 (rg M.regs a)) := fun _ h => h.kept (hx0.kept ra)
  have rr := Q07 hx0 ⟨ra, fa⟩
  have X := Lib.hid hx0
  clear hW he hs0 hx0 c0 c2 c3 ra fa
  refine Q0t 18 (by kernel_rfl) (by kernel_rfl) ?_
  simp only [List.take_succ_cons, List.take_zero, List.drop_succ_cons, List.drop_zero]
  repeat (first | (refine Q0g ?_ ?_ (fun wc hE => ?_) ?_; (decide); rfl; (focus (go_simp; done)); go_simp) | (refine Q0a ?_ ?_ ?_; (decide); (first | rfl | (focus (go_simp; done))); apply Exists.intro; refine ⟨fun wc hE => ?_, ?_⟩; (go_simp; exact rfl); go_simp) | (refine Q0h ?_ ?_ ?_; (decide); (first | rfl | (focus (go_simp; done))); apply Exists.intro; refine ⟨fun wc hE => ?_, ?_⟩; (go_simp; (first | fail)); go_simp) | (refine Q0e ?_ ?_ ?_; (decide); (focus (go_simp; done)); go_simp))
  refine Q0f ?_
  intro wx hx
  have X := Lib.hid (X.out.trans hx)
  have rr := Q07 hx rr
  have c1 := hx.kept c1
  clear hx c4 k1 k4 ma
  go_upto_region 15 with fail
  have k1 : ∀ W, Ext wx W → W.cell? ⟨e, 1, none⟩ = some (.int .i64 a) := fun _ h => h.kept c1
  refine Q0t 5 (by kernel_rfl) (by kernel_rfl) ?_
  simp only [List.take_succ_cons, List.take_zero, List.drop_succ_cons, List.drop_zero]
  repeat (first | (refine Q0g ?_ ?_ (fun wc hE => ?_) ?_; (decide); rfl; (focus (go_simp; done)); go_simp) | (refine Q0a ?_ ?_ ?_; (decide); (first | rfl | (focus (go_simp; done))); apply Exists.intro; refine ⟨fun wc hE => ?_, ?_⟩; (go_simp; exact rfl); go_simp) | (refine Q0h ?_ ?_ ?_; (decide); (first | rfl | (focus (go_simp; done))); apply Exists.intro; refine ⟨fun wc hE => ?_, ?_⟩; (go_simp; (first | fail)); go_simp) | (refine Q0e ?_ ?_ ?_; (decide); (focus (go_simp; done)); go_simp))
  refine Q0f ?_
  intro wy hy
  have X := Lib.hid (X.out.trans hy)
  have rr := Q07 hy rr
  clear hy c1 k1
  go_wp2
  refine bodyPost_end (results_none rfl _ _ _) rfl ?_
  exact Q41 (x := 0) ha H.out (Q39 (by simp)) Hr.out X.out
 ·have Hr : Hid (Q12 M.regs ⟨11, a, b, c, n⟩ = M.regs) := Lib.hid (by simp [Q12, hge, hneg])
  have hn0 : decide (rg M.regs a < 0) = false := by simpa using hneg
  have hn1 : decide (n ≤ rg M.regs a) = false := by simpa using hge
  clear hneg hge
  go_enter Try.func40, Try.ntmps40
  go_upto_region 14 with fail
  obtain ⟨w0, e, he, hW, hs0, hx0, c0, c1, c2, c3, c4⟩ := new5 w 71 (.int .i64 11) (.int .i64 a) (.int .i64 b) (.int .i64 c) (.int .i64 n)
  rw [hW, he]
  have k1 : ∀ W, Ext w0 W → W.cell? ⟨e, 1, none⟩ = some (.int .i64 a) := fun _ h => h.kept c1
  have k4 : ∀ W, Ext w0 W → W.cell? ⟨e, 4, none⟩ = some (.int .i64 n) := fun _ h => h.kept c4
  have ma : ∀ W, Ext w0 W → W.cell? ⟨g, 7 + a.toNat, none⟩ = some (.int .i64 (rg M.regs a)) := fun _ h => h.kept (hx0.kept ra)
  have rr := Q07 hx0 ⟨ra, fa⟩
  have X := Lib.hid hx0
  clear hW he hs0 hx0 c0 c2 c3 ra fa
  refine Q0t 18 (by kernel_rfl) (by kernel_rfl) ?_
  simp only [List.take_succ_cons, List.take_zero, List.drop_succ_cons, List.drop_zero]
  repeat (first | (refine Q0g ?_ ?_ (fun wc hE => ?_) ?_; (decide); rfl; (focus (go_simp; done)); go_simp) | (refine Q0a ?_ ?_ ?_; (decide); (first | rfl | (focus (go_simp; done))); apply Exists.intro; refine ⟨fun wc hE => ?_, ?_⟩; (go_simp; exact rfl); go_simp) | (refine Q0h ?_ ?_ ?_; (decide); (first | rfl | (focus (go_simp; done))); apply Exists.intro; refine ⟨fun wc hE => ?_, ?_⟩; (go_simp; (first | fail)); go_simp) | (refine Q0e ?_ ?_ ?_; (decide); (focus (go_simp; done)); go_simp))
  refine Q0f ?_
  intro wx hx
  have X := Lib.hid (X.out.trans hx)
  have rr := Q07 hx rr
  have c1 := hx.kept c1
  clear hx c4 k1 k4 ma
  go_wp2
  refine bodyPost_end (results_none rfl _ _ _) rfl ?_
  exact Q8k H.out (Q39 (by simp)) Hr.out X.out
set_option maxRecDepth 100000 in
set_option maxHeartbeats 2000000 in
theorem Qc3 {B g : Nat} {vR vC vM vB vS vW : Value} {bases : List Int} {M : Mach} (a b c n : Int) (h64 : Q0z M.regs) (hop : True) (hsn : M.seen.length ≤ 1000000) (w : World) (h : MSt w B g vR vC vM vB vS vW bases M) :
  Calls Try.prog 40 #[.pointer (some ⟨g, 0, none⟩), insV ⟨12, a, b, c, n⟩] w (Q2f w B g vR vC vM vB vS vW bases M ⟨12, a, b, c, n⟩) := by
 unfold insV
 simp only
 have hgl := h.box.lt
 have H := Lib.hid h
 have hix := Q1s
 clear h
 go_enter Try.func40, Try.ntmps40
 go_wp2
 refine bodyPost_end (results_none rfl _ _ _) rfl ?_
 exact Q8k H.out (Q39 (by simp)) rfl ((Ext.refl _).alloc _)
theorem Q3f {S : Nat → Prop} {w w' : World} (h : Turn S w w') {p : Addr} (hp : p.block < w.heap.size) (hn : ¬ S p.block) : w'.cell? p = w.cell? p := by
 have := h.block p.block hp hn
 unfold World.cell?
 rw [this]
set_option maxRecDepth 100000 in
set_option maxHeartbeats 2000000 in
theorem Q4p {B g : Nat} {vR vC vM vB vS vW : Value} {bases : List Int} {M : Mach} (op a b c n : Int) (h64 : Q0z M.regs) (ha : okIn 10 a = true) (hb : okIn 10 b = true) (hc : okIn 10 c = true) (o1 : 21 ≤ op) (o2 : op ≤ 28) (hsn : M.seen.length ≤ 1000000) (w : World) (h : MSt w B g vR vC vM vB vS vW bases M) :
  Calls Try.prog 40 #[.pointer (some ⟨g, 0, none⟩), insV ⟨op, a, b, c, n⟩] w (Q2f w B g vR vC vM vB vS vW bases M ⟨op, a, b, c, n⟩) := by
 unfold insV
 simp only
 have hgl := h.box.lt
 have H := Lib.hid h
 obtain ⟨ra, fa⟩ := h.reg ha
 obtain ⟨a0, a1⟩ := Q0u.1 ha
 obtain ⟨rb, fb⟩ := h.reg hb
 obtain ⟨b0, b1⟩ := Q0u.1 hb
 obtain ⟨rc, fc⟩ := h.reg hc
 obtain ⟨c0, c1⟩ := Q0u.1 hc
 have hsub : IntKind.i64.wrap (op - 20) = op - 20 := Go.IntWalk.i64_in _ (by omega)
 have q1 : (op == (1 : Int)) = false := by simp; try omega
 have q2 : (op == (2 : Int)) = false := by simp; try omega
 have q3 : (op == (10 : Int)) = false := by simp; try omega
 have q4 : (op == (11 : Int)) = false := by simp; try omega
 have q5 : (op == (12 : Int)) = false := by simp; try omega
 have q6 : (op - 20 == (9 : Int)) = false := by simp; omega
 have q7 : (op - 20 == (10 : Int)) = false := by simp; omega
 have Hr : Hid (Q12 M.regs ⟨op, a, b, c, n⟩ = rset M.regs a (nop (op - 20) (rg M.regs b) (rg M.regs c))) := Lib.hid (by
  unfold Q12
  rw [if_neg (by simp only; omega), if_neg (by simp only; omega), if_neg (by simp only; omega), if_neg (by simp only; omega), if_neg (by simp only; omega)]
  try rfl)
 have hix := Q1s
 clear h
 go_enter Try.func40, Try.ntmps40
 go_upto_region 6 with fail
 obtain ⟨w0, e, he, hW, hs0, hx0, c0, c1, c2, c3, c4⟩ := new5 w 71 (.int .i64 op) (.int .i64 a) (.int .i64 b) (.int .i64 c) (.int .i64 n)
 rw [hW, he]
 have k1 : ∀ W, Ext w0 W → W.cell? ⟨e, 1, none⟩ = some (.int .i64 a) := fun _ h => h.kept c1
 have k2 : ∀ W, Ext w0 W → W.cell? ⟨e, 2, none⟩ = some (.int .i64 b) := fun _ h => h.kept c2
 have k3 : ∀ W, Ext w0 W → W.cell? ⟨e, 3, none⟩ = some (.int .i64 c) := fun _ h => h.kept c3
 have mb : ∀ W, Ext w0 W → W.cell? ⟨g, 7 + b.toNat, none⟩ = some (.int .i64 (rg M.regs b)) := fun _ h => h.kept (hx0.kept rb)
 have mc : ∀ W, Ext w0 W → W.cell? ⟨g, 7 + c.toNat, none⟩ = some (.int .i64 (rg M.regs c)) := fun _ h => h.kept (hx0.kept rc)
 have rr := Q07 hx0 ⟨ra, fa⟩
 have X := Lib.hid hx0
 clear hW hs0 hx0 c0 c1 c2 c3 c4 ra fa rb fb rc fc
 refine Q0t 19 (by kernel_rfl) (by kernel_rfl) ?_
 simp only [List.take_succ_cons, List.take_zero, List.drop_succ_cons, List.drop_zero]
 repeat (first | (refine Q0g ?_ ?_ (fun wc hE => ?_) ?_; (decide); rfl; (focus (go_simp; done)); go_simp) | (refine Q0a ?_ ?_ ?_; (decide); (first | rfl | (focus (go_simp; done))); apply Exists.intro; refine ⟨fun wc hE => ?_, ?_⟩; (go_simp; exact rfl); go_simp) | (refine Q0h ?_ ?_ ?_; (decide); (first | rfl | (focus (go_simp; done))); apply Exists.intro; refine ⟨fun wc hE => ?_, ?_⟩; (go_simp; (first | (with_reducible exact Q72 (Q6g (op - 20) (rg M.regs b) (rg M.regs c) _)))); go_simp) | (refine Q0e ?_ ?_ ?_; (decide); (focus (go_simp; done)); go_simp))
 refine Q0f ?_
 intro wx hx
 have X := Lib.hid (X.out.trans hx)
 have rr := Q07 hx rr
 clear hx k1 k2 k3 mb mc hsub
 go_wp2
 refine bodyPost_end (results_none rfl _ _ _) rfl ?_
 exact Q41 (x := nop (op - 20) (rg M.regs b) (rg M.regs c)) ha H.out (Q39 (by simp only; omega)) Hr.out X.out
set_option maxRecDepth 100000 in
set_option maxHeartbeats 2000000 in
theorem Qc0 {B g : Nat} {vR vC vM vB vS vW : Value} {bases : List Int} {M : Mach} (a b c n : Int) (h64 : Q0z M.regs) (ha : okIn 10 a = true) (hb : okIn 10 b = true) (hc : okIn 10 c = true) (hsn : M.seen.length ≤ 1000000) (w : World) (h : MSt w B g vR vC vM vB vS vW bases M) :
  Calls Try.prog 40 #[.pointer (some ⟨g, 0, none⟩), insV ⟨29, a, b, c, n⟩] w (Q2f w B g vR vC vM vB vS vW bases M ⟨29, a, b, c, n⟩) := by
 unfold insV
 simp only
 have hgl := h.box.lt
 have H := Lib.hid h
 obtain ⟨ra, fa⟩ := h.reg ha
 obtain ⟨a0, a1⟩ := Q0u.1 ha
 obtain ⟨rb, fb⟩ := h.reg hb
 obtain ⟨b0, b1⟩ := Q0u.1 hb
 obtain ⟨rc, fc⟩ := h.reg hc
 obtain ⟨c0, c1⟩ := Q0u.1 hc
 have hsub : IntKind.i64.wrap (9) = 9 := Go.IntWalk.i64_in _ (by omega)
 have q1 : (29 == (1 : Int)) = false := by simp; try omega
 have q2 : (29 == (2 : Int)) = false := by simp; try omega
 have q3 : (29 == (10 : Int)) = false := by simp; try omega
 have q4 : (29 == (11 : Int)) = false := by simp; try omega
 have q5 : (29 == (12 : Int)) = false := by simp; try omega
 have Hr : Hid (Q12 M.regs ⟨29, a, b, c, n⟩ = rset M.regs a (nop (9) (rg M.regs b) (rg M.regs c))) := Lib.hid (by
  unfold Q12
  rw [if_neg (by simp only; omega), if_neg (by simp only; omega), if_neg (by simp only; omega), if_neg (by simp only; omega), if_neg (by simp only; omega)]
  try rfl)
 have hix := Q1s
 clear h
 go_enter Try.func40, Try.ntmps40
 go_upto_region 5 with fail
 obtain ⟨w0, e, he, hW, hs0, hx0, c0, c1, c2, c3, c4⟩ := new5 w 71 (.int .i64 29) (.int .i64 a) (.int .i64 b) (.int .i64 c) (.int .i64 n)
 rw [hW, he]
 have k1 : ∀ W, Ext w0 W → W.cell? ⟨e, 1, none⟩ = some (.int .i64 a) := fun _ h => h.kept c1
 have k2 : ∀ W, Ext w0 W → W.cell? ⟨e, 2, none⟩ = some (.int .i64 b) := fun _ h => h.kept c2
 have k3 : ∀ W, Ext w0 W → W.cell? ⟨e, 3, none⟩ = some (.int .i64 c) := fun _ h => h.kept c3
 have mb : ∀ W, Ext w0 W → W.cell? ⟨g, 7 + b.toNat, none⟩ = some (.int .i64 (rg M.regs b)) := fun _ h => h.kept (hx0.kept rb)
 have mc : ∀ W, Ext w0 W → W.cell? ⟨g, 7 + c.toNat, none⟩ = some (.int .i64 (rg M.regs c)) := fun _ h => h.kept (hx0.kept rc)
 have rr := Q07 hx0 ⟨ra, fa⟩
 have X := Lib.hid hx0
 have Ha := Lib.hid ha
 have Hb := Lib.hid hb
 have Hc := Lib.hid hc
 have hke : e ≠ g := by omega
 clear hW hs0 hx0 c0 c4 ra fa rb fb rc fc
 refine Q0t 13 (by kernel_rfl) (by kernel_rfl) ?_
 simp only [List.take_succ_cons, List.take_zero, List.drop_succ_cons, List.drop_zero]
 repeat (first | (refine Q0g ?_ ?_ (fun wc hE => ?_) ?_; (decide); rfl; (focus (go_simp; done)); go_simp) | (refine Q0a ?_ ?_ ?_; (decide); (first | rfl | (focus (go_simp; done))); apply Exists.intro; refine ⟨fun wc hE => ?_, ?_⟩; (go_simp; exact rfl); go_simp) | (refine Q0h ?_ ?_ ?_; (decide); (first | rfl | (focus (go_simp; done))); apply Exists.intro; refine ⟨fun wc hE => ?_, ?_⟩; (go_simp; (first | fail)); go_simp) | (refine Q0e ?_ ?_ ?_; (decide); (focus (go_simp; done)); go_simp))
 refine Q0f ?_
 intro wx hx
 have X := Lib.hid (X.out.trans hx)
 have c1 := hx.kept c1
 have c2 := hx.kept c2
 have c3 := hx.kept c3
 clear hx k1 k2 k3 mb mc rr
 go_wp2_with fail
 (with_reducible refine (Q2k wx (H.out.ext X.out) 3 (rg M.regs b) (rg M.regs c) hsn).mono ?_)
 rintro e1 w2 ⟨rfl, vS2, P2, T2, N2⟩
 have hes : vS.ownBlock ≠ some e := by
  intro he2
  have := (H.out.sn.lt e he2).2
  omega
 have hne : ¬ (e = g ∨ vS.ownBlock = some e) := by
  rintro (h1 | h1)
  ·exact hke h1
  ·exact hes h1
 have hel := Q0m c1
 simp only at hel
 have c1 : w2.cell? ⟨e, 1, none⟩ = some (.int .i64 a) := by rw [Q3f T2 hel hne]; exact c1
 have c2 : w2.cell? ⟨e, 2, none⟩ = some (.int .i64 b) := by rw [Q3f T2 hel hne]; exact c2
 have c3 : w2.cell? ⟨e, 3, none⟩ = some (.int .i64 c) := by rw [Q3f T2 hel hne]; exact c3
 obtain ⟨ra, fa⟩ := P2.reg Ha.out
 obtain ⟨rb, -⟩ := P2.reg Hb.out
 obtain ⟨rc, -⟩ := P2.reg Hc.out
 simp only at ra rb rc
 have P2 := Lib.hid P2
 have T2 := Lib.hid T2
 have N2 := Lib.hid N2
 have hgl := P2.out.box.lt
 clear hes hne
 go_upto_region 6 with fail
 have k1 : ∀ W, Ext w2 W → W.cell? ⟨e, 1, none⟩ = some (.int .i64 a) := fun _ h => h.kept c1
 have k2 : ∀ W, Ext w2 W → W.cell? ⟨e, 2, none⟩ = some (.int .i64 b) := fun _ h => h.kept c2
 have k3 : ∀ W, Ext w2 W → W.cell? ⟨e, 3, none⟩ = some (.int .i64 c) := fun _ h => h.kept c3
 have mb : ∀ W, Ext w2 W → W.cell? ⟨g, 7 + b.toNat, none⟩ = some (.int .i64 (rg M.regs b)) := fun _ h => h.kept (rb)
 have mc : ∀ W, Ext w2 W → W.cell? ⟨g, 7 + c.toNat, none⟩ = some (.int .i64 (rg M.regs c)) := fun _ h => h.kept (rc)
 have rr : w2.cell? ⟨g, 7 + a.toNat, none⟩ = some (.int .i64 (rg M.regs a)) ∧ w2.frozen? ⟨g, 7 + a.toNat, none⟩ = false := ⟨ra, fa⟩
 clear c1 c2 c3 ra fa rb rc
 refine Q0t 19 (by kernel_rfl) (by kernel_rfl) ?_
 simp only [List.take_succ_cons, List.take_zero, List.drop_succ_cons, List.drop_zero]
 repeat (first | (refine Q0g ?_ ?_ (fun wc hE => ?_) ?_; (decide); rfl; (focus (go_simp; done)); go_simp) | (refine Q0a ?_ ?_ ?_; (decide); (first | rfl | (focus (go_simp; done))); apply Exists.intro; refine ⟨fun wc hE => ?_, ?_⟩; (go_simp; exact rfl); go_simp) | (refine Q0h ?_ ?_ ?_; (decide); (first | rfl | (focus (go_simp; done))); apply Exists.intro; refine ⟨fun wc hE => ?_, ?_⟩; (go_simp; (first | (with_reducible exact Q72 (Q6g (9) (rg M.regs b) (rg M.regs c) _)))); go_simp) | (refine Q0e ?_ ?_ ?_; (decide); (focus (go_simp; done)); go_simp))
 refine Q0f ?_
 intro wy hy
 have rr := Q07 hy rr
 have Y := Lib.hid hy
 clear hy k1 k2 k3 mb mc hsub
 go_wp2
 refine bodyPost_end (results_none rfl _ _ _) rfl ?_
 refine ⟨rfl, vS2, ?_, ?_, fun j hj => ?_⟩
 ·have h1 := (P2.out.ext Y.out).reg_ Ha.out (nop (9) (rg M.regs b) (rg M.regs c))
  rw [Hr.out]
  exact h1
 ·exact (((Turn.ofExt X.out).trans T2.out (fun _ _ e => e)).ext Y.out).trans (Turn.set _ _ _) (fun j _ e => .inl e)
 ·rcases N2.out j hj with h1 | h1
  ·exact .inl h1
  ·have := X.out.size
   exact .inr (by omega)
set_option maxRecDepth 100000 in
set_option maxHeartbeats 2000000 in
theorem Qbz {B g : Nat} {vR vC vM vB vS vW : Value} {bases : List Int} {M : Mach} (a b c n : Int) (h64 : Q0z M.regs) (ha : okIn 10 a = true) (hb : okIn 10 b = true) (hc : okIn 10 c = true) (hsn : M.seen.length ≤ 1000000) (w : World) (h : MSt w B g vR vC vM vB vS vW bases M) :
  Calls Try.prog 40 #[.pointer (some ⟨g, 0, none⟩), insV ⟨30, a, b, c, n⟩] w (Q2f w B g vR vC vM vB vS vW bases M ⟨30, a, b, c, n⟩) := by
 unfold insV
 simp only
 have hgl := h.box.lt
 have H := Lib.hid h
 obtain ⟨ra, fa⟩ := h.reg ha
 obtain ⟨a0, a1⟩ := Q0u.1 ha
 obtain ⟨rb, fb⟩ := h.reg hb
 obtain ⟨b0, b1⟩ := Q0u.1 hb
 obtain ⟨rc, fc⟩ := h.reg hc
 obtain ⟨c0, c1⟩ := Q0u.1 hc
 have hsub : IntKind.i64.wrap (10) = 10 := Go.IntWalk.i64_in _ (by omega)
 have q1 : (30 == (1 : Int)) = false := by simp; try omega
 have q2 : (30 == (2 : Int)) = false := by simp; try omega
 have q3 : (30 == (10 : Int)) = false := by simp; try omega
 have q4 : (30 == (11 : Int)) = false := by simp; try omega
 have q5 : (30 == (12 : Int)) = false := by simp; try omega
 have Hr : Hid (Q12 M.regs ⟨30, a, b, c, n⟩ = rset M.regs a (nop (10) (rg M.regs b) (rg M.regs c))) := Lib.hid (by
  unfold Q12
  rw [if_neg (by simp only; omega), if_neg (by simp only; omega), if_neg (by simp only; omega), if_neg (by simp only; omega), if_neg (by simp only; omega)]
  try rfl)
 have hix := Q1s
 clear h
 go_enter Try.func40, Try.ntmps40
 go_upto_region 5 with fail
 obtain ⟨w0, e, he, hW, hs0, hx0, c0, c1, c2, c3, c4⟩ := new5 w 71 (.int .i64 30) (.int .i64 a) (.int .i64 b) (.int .i64 c) (.int .i64 n)
 rw [hW, he]
 have k1 : ∀ W, Ext w0 W → W.cell? ⟨e, 1, none⟩ = some (.int .i64 a) := fun _ h => h.kept c1
 have k2 : ∀ W, Ext w0 W → W.cell? ⟨e, 2, none⟩ = some (.int .i64 b) := fun _ h => h.kept c2
 have k3 : ∀ W, Ext w0 W → W.cell? ⟨e, 3, none⟩ = some (.int .i64 c) := fun _ h => h.kept c3
 have mb : ∀ W, Ext w0 W → W.cell? ⟨g, 7 + b.toNat, none⟩ = some (.int .i64 (rg M.regs b)) := fun _ h => h.kept (hx0.kept rb)
 have mc : ∀ W, Ext w0 W → W.cell? ⟨g, 7 + c.toNat, none⟩ = some (.int .i64 (rg M.regs c)) := fun _ h => h.kept (hx0.kept rc)
 have rr := Q07 hx0 ⟨ra, fa⟩
 have X := Lib.hid hx0
 have Ha := Lib.hid ha
 have Hb := Lib.hid hb
 have Hc := Lib.hid hc
 have hke : e ≠ g := by omega
 clear hW hs0 hx0 c0 c4 ra fa rb fb rc fc
 refine Q0t 13 (by kernel_rfl) (by kernel_rfl) ?_
 simp only [List.take_succ_cons, List.take_zero, List.drop_succ_cons, List.drop_zero]
 repeat (first | (refine Q0g ?_ ?_ (fun wc hE => ?_) ?_; (decide); rfl; (focus (go_simp; done)); go_simp) | (refine Q0a ?_ ?_ ?_; (decide); (first | rfl | (focus (go_simp; done))); apply Exists.intro; refine ⟨fun wc hE => ?_, ?_⟩; (go_simp; exact rfl); go_simp) | (refine Q0h ?_ ?_ ?_; (decide); (first | rfl | (focus (go_simp; done))); apply Exists.intro; refine ⟨fun wc hE => ?_, ?_⟩; (go_simp; (first | fail)); go_simp) | (refine Q0e ?_ ?_ ?_; (decide); (focus (go_simp; done)); go_simp))
 refine Q0f ?_
 intro wx hx
 have X := Lib.hid (X.out.trans hx)
 have c1 := hx.kept c1
 have c2 := hx.kept c2
 have c3 := hx.kept c3
 clear hx k1 k2 k3 mb mc rr
 go_wp2_with fail
 (with_reducible refine (Q2k wx (H.out.ext X.out) 3 (rg M.regs b) (rg M.regs c) hsn).mono ?_)
 rintro e1 w2 ⟨rfl, vS2, P2, T2, N2⟩
 have hes : vS.ownBlock ≠ some e := by
  intro he2
  have := (H.out.sn.lt e he2).2
  omega
 have hne : ¬ (e = g ∨ vS.ownBlock = some e) := by
  rintro (h1 | h1)
  ·exact hke h1
  ·exact hes h1
 have hel := Q0m c1
 simp only at hel
 have c1 : w2.cell? ⟨e, 1, none⟩ = some (.int .i64 a) := by rw [Q3f T2 hel hne]; exact c1
 have c2 : w2.cell? ⟨e, 2, none⟩ = some (.int .i64 b) := by rw [Q3f T2 hel hne]; exact c2
 have c3 : w2.cell? ⟨e, 3, none⟩ = some (.int .i64 c) := by rw [Q3f T2 hel hne]; exact c3
 obtain ⟨ra, fa⟩ := P2.reg Ha.out
 obtain ⟨rb, -⟩ := P2.reg Hb.out
 obtain ⟨rc, -⟩ := P2.reg Hc.out
 simp only at ra rb rc
 have P2 := Lib.hid P2
 have T2 := Lib.hid T2
 have N2 := Lib.hid N2
 have hgl := P2.out.box.lt
 clear hes hne
 go_upto_region 6 with fail
 have k1 : ∀ W, Ext w2 W → W.cell? ⟨e, 1, none⟩ = some (.int .i64 a) := fun _ h => h.kept c1
 have k2 : ∀ W, Ext w2 W → W.cell? ⟨e, 2, none⟩ = some (.int .i64 b) := fun _ h => h.kept c2
 have k3 : ∀ W, Ext w2 W → W.cell? ⟨e, 3, none⟩ = some (.int .i64 c) := fun _ h => h.kept c3
 have mb : ∀ W, Ext w2 W → W.cell? ⟨g, 7 + b.toNat, none⟩ = some (.int .i64 (rg M.regs b)) := fun _ h => h.kept (rb)
 have mc : ∀ W, Ext w2 W → W.cell? ⟨g, 7 + c.toNat, none⟩ = some (.int .i64 (rg M.regs c)) := fun _ h => h.kept (rc)
 have rr : w2.cell? ⟨g, 7 + a.toNat, none⟩ = some (.int .i64 (rg M.regs a)) ∧ w2.frozen? ⟨g, 7 + a.toNat, none⟩ = false := ⟨ra, fa⟩
 clear c1 c2 c3 ra fa rb rc
 refine Q0t 19 (by kernel_rfl) (by kernel_rfl) ?_
 simp only [List.take_succ_cons, List.take_zero, List.drop_succ_cons, List.drop_zero]
 repeat (first | (refine Q0g ?_ ?_ (fun wc hE => ?_) ?_; (decide); rfl; (focus (go_simp; done)); go_simp) | (refine Q0a ?_ ?_ ?_; (decide); (first | rfl | (focus (go_simp; done))); apply Exists.intro; refine ⟨fun wc hE => ?_, ?_⟩; (go_simp; exact rfl); go_simp) | (refine Q0h ?_ ?_ ?_; (decide); (first | rfl | (focus (go_simp; done))); apply Exists.intro; refine ⟨fun wc hE => ?_, ?_⟩; (go_simp; (first | (with_reducible exact Q72 (Q6g (10) (rg M.regs b) (rg M.regs c) _)))); go_simp) | (refine Q0e ?_ ?_ ?_; (decide); (focus (go_simp; done)); go_simp))
 refine Q0f ?_
 intro wy hy
 have rr := Q07 hy rr
 have Y := Lib.hid hy
 clear hy k1 k2 k3 mb mc hsub
 go_wp2
 refine bodyPost_end (results_none rfl _ _ _) rfl ?_
 refine ⟨rfl, vS2, ?_, ?_, fun j hj => ?_⟩
 ·have h1 := (P2.out.ext Y.out).reg_ Ha.out (nop (10) (rg M.regs b) (rg M.regs c))
  rw [Hr.out]
  exact h1
 ·exact (((Turn.ofExt X.out).trans T2.out (fun _ _ e => e)).ext Y.out).trans (Turn.set _ _ _) (fun j _ e => .inl e)
 ·rcases N2.out j hj with h1 | h1
  ·exact .inl h1
  ·have := X.out.size
   exact .inr (by omega)
theorem Q8m {B g : Nat} {vR vC vM vB vS vW : Value} {bases : List Int} {M : Mach} (p : Q00) (i : LIns) (h64 : Q0z M.regs) (hi : Q05 p 10 i = true) (h3 : i.op ≠ 3 ∧ i.op ≠ 4 ∧ i.op ≠ 5 ∧ i.op ≠ 6 ∧ i.op ≠ 7 ∧ i.op ≠ 8 ∧ i.op ≠ 9) (hsn : M.seen.length ≤ 1000000) (w : World) (h : MSt w B g vR vC vM vB vS vW bases M) :
  Calls Try.prog 40 #[.pointer (some ⟨g, 0, none⟩), insV i] w (Q2f w B g vR vC vM vB vS vW bases M i) := by
 obtain ⟨g1, g2, g10, g3, g5, g8, g9, g11, go, g7, gop⟩ := Q2p hi
 obtain ⟨op, a, b, c, n⟩ := i
 simp only at h3
 by_cases e1 : op = 1
 ·subst e1; exact Qby a b c n h64 (g1 rfl) hsn w h
 by_cases e2 : op = 2
 ·subst e2; exact Qc1 a b c n h64 (g2 rfl).1 (g2 rfl).2 hsn w h
 by_cases e10 : op = 10
 ·subst e10; exact Qc4 a b c n h64 (g10 rfl).1 (g10 rfl).2 hsn w h
 by_cases e11 : op = 11
 ·subst e11; exact Qc2 a b c n h64 (g11 rfl).1 hsn w h
 by_cases e12 : op = 12
 ·subst e12; exact Qc3 a b c n h64 trivial hsn w h
 obtain ⟨p1, p2, p3, p4, p5⟩ := go e1 e2 e10 h3.1 h3.2.1 h3.2.2.1 h3.2.2.2.1 h3.2.2.2.2.1 h3.2.2.2.2.2.1 h3.2.2.2.2.2.2 e11 e12
 simp only at p4 p5
 by_cases e29 : op = 29
 ·subst e29; exact Qc0 a b c n h64 p1 p2 p3 hsn w h
 by_cases e30 : op = 30
 ·subst e30; exact Qbz a b c n h64 p1 p2 p3 hsn w h
 exact Q4p op a b c n h64 p1 p2 p3 p4 (by omega) hsn w h
structure RV where
 (vR vW vP vS vX bR bW bP : Value)
 (vs bs : List Value)
section
variable {wB w w' : World} {g : Nat} {vG vC : Value} {V V' : RV} {S S' : Spc}
end
section
variable {wB w : World} {g : Nat} {vG vC : Value} {V : RV} {S : Spc}
end
section
variable {w0 w w' : World} {q : Nat} {P : Plc} {bR bW bP u : Value} {bs : List Value} {r ws : List Int} {ps : List (List Int)}
end
section
variable {wB w : World} {g : Nat} {vG vC : Value} {V : RV} {S : Spc}
def Off (v : Value) (W w : World) : Prop := Turn (fun j => v.ownBlock = some j) W w
theorem Off.kept {v x : Value} {W w : World} {b o : Nat} (h : Off v W w) (hc : W.cell? ⟨b, o, none⟩ = some x) (hn : v.ownBlock ≠ some b) : w.cell? ⟨b, o, none⟩ = some x := by
 rw [World.cell?_of_block (w := W) (w' := w) (a := ⟨b, o, none⟩) (Turn.block h b (Q0m hc) hn)]
 exact hc
def Q2r (i : LIns) (S : Spc) (m : Int) : Spc :=
 let s1 := { S with seen := S.seen ++ [⟨2, m, putN i⟩] }
 if 0 ≤ m ∧ m < S.pl.words.length then
  if Q08 i then { s1 with pl := { s1.pl with at_ := s1.pl.at_ + 1, past := s1.pl.past.set m.toNat (s1.pl.past.getD m.toNat [] ++ [s1.pl.words.getD m.toNat 0]), words := s1.pl.words.set m.toNat (rg s1.pl.regs i.a) } }
  else Q18 i m.toNat s1
 else
  let s2 := s1.goTo (s1.pl.at_ + 1)
  if Q08 i then s2 else s2.put_ i.a 0
theorem Q9u {p : Q00} {i : LIns} {S : Spc} (h : (!Q1c p i (Q0p S.pl.regs i) && !S.ahead) = false) : Q17 p i S = Q2r i S (wrap64 (Q04 p i.c.toNat + Q0p S.pl.regs i)) := by
 unfold Q17
 simp only
 rw [if_neg (by rw [h]; simp)]
 rfl
theorem Q8h {i : LIns} (h : Q08 i = false) : putN i = 0 := by unfold putN; rw [h]; rfl
theorem Q8i {i : LIns} (h : Q08 i = true) : putN i = 1 := by unfold putN; rw [h]; rfl
theorem Qbh {i : LIns} {S : Spc} {m : Int} (h : Q08 i = false) (hm : ¬ (0 ≤ m ∧ m < S.pl.words.length)) : Q2r i S m = (({ S with seen := S.seen ++ [⟨2, m, 0⟩] } : Spc).goTo (S.pl.at_ + 1)).put_ i.a 0 := by
 unfold Q2r
 simp only
 rw [if_neg hm, if_neg (by rw [h]; simp), Q8h h]
theorem Qbi {i : LIns} {S : Spc} {m : Int} (h : Q08 i = true) (hm : ¬ (0 ≤ m ∧ m < S.pl.words.length)) : Q2r i S m = ({ S with seen := S.seen ++ [⟨2, m, 1⟩] } : Spc).goTo (S.pl.at_ + 1) := by
 unfold Q2r
 simp only
 rw [if_neg hm, if_pos h, Q8i h]
theorem Qbf {i : LIns} {S : Spc} {m : Int} (h : Q08 i = false) (hm : 0 ≤ m ∧ m < S.pl.words.length) : Q2r i S m = Q18 i m.toNat { S with seen := S.seen ++ [⟨2, m, 0⟩] } := by
 unfold Q2r
 simp only
 rw [if_pos hm, if_neg (by rw [h]; simp), Q8h h]
theorem Qbg {i : LIns} {S : Spc} {m : Int} (h : Q08 i = true) (hm : 0 ≤ m ∧ m < S.pl.words.length) : Q2r i S m = { S with seen := S.seen ++ [⟨2, m, 1⟩], pl := { S.pl with at_ := S.pl.at_ + 1, past := S.pl.past.set m.toNat (S.pl.past.getD m.toNat [] ++ [S.pl.words.getD m.toNat 0]), words := S.pl.words.set m.toNat (rg S.pl.regs i.a) } } := by
 unfold Q2r
 simp only
 rw [if_pos hm, if_pos h, Q8i h]
theorem Q9v {p : Q00} {i : LIns} {S : Spc} (h : Q1c p i (Q0p S.pl.regs i) = false) (ha : S.ahead = false) : Q17 p i S = { S with fin := 2 } := by
 unfold Q17
 simp only
 rw [if_pos (by rw [h, ha]; rfl)]
end
def Q0n (p : Q00) : List Int := (List.range p.regs.length).map fun k => (Q04 p k : Int)
theorem Q30 (p : Q00) : (Q0n p).length = p.regs.length := by simp [Q0n]
theorem Q75 (p : Q00) {c : Nat} (h : c < p.regs.length) : ((Q0n p).map (Value.int .i64))[c]? = some (.int .i64 (Q04 p c : Nat)) := by simp [Q0n, h]
theorem Q98 (k n cap : Nat) (W : World) (i : Int) (h0 : 0 ≤ i) (h1 : i < n) :
  (Instr.indexAt 27 (.slice (some ⟨k, 0, none⟩) n cap) (.int .i64 i)).run Try.prog W = .ok (.pointer (some ⟨k, i.toNat, none⟩)) W := by
 have hs : (Try.prog.info? 3).map (·.size) = some 1 := by kernel_rfl
 simp [Instr.indexAt, run_underlying Try.underlying27, asIntOf, h0, h1]
 have := Q31 k 0 i.toNat
 simpa using this
theorem Q2n {w : World} {B : Nat} {e : TypeId} {v : Value} {n : Nat} {xs : List Value} (h : w.ownsRow B e 1 v n xs) (hn : 0 < n) : ∃ k cap, v = .slice (some ⟨k, 0, none⟩) n cap ∧ B ≤ k ∧ ∀ j x, j < n → xs[j]? = some x → w.cell? ⟨k, j, none⟩ = some x ∧ w.frozen? ⟨k, j, none⟩ = false := by
 have h' := h
 rcases h.2 with ⟨-, h0⟩ | ⟨k, cap, cur, rfl, a1, a2, a3⟩
 ·omega
 ·exact ⟨k, cap, rfl, a1, fun j x hj hx => ⟨by rw [h'.cellAt j (by omega), hx], h'.frozenAt j⟩⟩
def Q2v (p : Q00) (i : LIns) (M : Mach) : Mach :=
 let q := Q04 p i.c.toNat + (Q0p M.regs i).toNat
 if Q08 i then { M with seen := M.seen ++ [⟨2, (q : Nat), putN i⟩], words := M.words.set q (rg M.regs i.a) }
 else { M with seen := M.seen ++ [⟨2, (q : Nat), putN i⟩], regs := rset M.regs i.a (M.words.getD q 0) }
def Q49 (p : Q00) (w : World) (B g : Nat) (vR vC vM vB vW : Value) (bases : List Int) (M : Mach) (i : LIns) (e : Ending) (w' : World) : Prop :=
 (Q1c p i (Q0p M.regs i) = true ∧ e = .returned (.bool true) ∧ ∃ vS', MSt w' B g vR vC vM vB vS' vW bases (Q2v p i M) ∧ Below B w w') ∨ (Q1c p i (Q0p M.regs i) = false ∧ e = .returned (.bool false) ∧ Ext w w')
theorem MSt.below {w w' : World} {B g : Nat} {vR vC vM vB vS vW : Value} {bases : List Int} {M : Mach} (h : MSt w B g vR vC vM vB vS vW bases M) (ht : Turn (fun j => j = g ∨ vS.ownBlock = some j) w w') : Below B w w' :=
 ht.below h.size (by
  rintro j (rfl | e)
  ·exact h.hg
  ·exact Q2h h.sn j e)
set_option maxRecDepth 100000 in
set_option maxHeartbeats 4000000 in
theorem Q50 (p : Q00) (i : LIns) {B g : Nat} {vR vC vM vB vS vW : Value} {M : Mach} (hw : i.op = 3 ∨ i.op = 4 ∨ i.op = 5 ∨ i.op = 6) (hi : Q05 p 10 i = true) (hr : Q0k p.regs = true) (hok : MOk p M) (hsn : M.seen.length ≤ 1000000) (w : World) (hR : Q2u w vR p.regs) (h : MSt w B g vR vC vM vB vS vW (Q0n p) M) :
  Calls Try.prog 52 #[.pointer (some ⟨g, 0, none⟩), insV i] w (Q49 p w B g vR vC vM vB vW (Q0n p) M i) := by
 obtain ⟨ha, hb, hc0, hc1⟩ := Q7g hi hw
 have hbe := Q4w p i.c.toNat hc1
 have htt := Q3y hr
 have hlen := Q3z hr
 have hw6 : Q0b (p.regs.getD i.c.toNat default) ≤ 64 := Q4c _ (Q4m hr _ (Q1f hc1)).2
 have H := Lib.hid h
 have HR := Lib.hid hR
 have Hr := Lib.hid hr
 have Hok := Lib.hid hok
 have Ha := Lib.hid ha
 have Hb := Lib.hid hb
 have Hc1 := Lib.hid hc1
 have hgl := h.box.lt
 have hwl := hok.wlen
 have Hput : Hid (putN i = if Q08 i then 1 else 0) := Lib.hid rfl
 have HW : Hid (∀ w', Q1c p i (Q0p M.regs i) = true → (∃ vS', MSt w' B g vR vC vM vB vS' vW (Q0n p) (Q2v p i M) ∧ Below B w w') → Q49 p w B g vR vC vM vB vW (Q0n p) M i (.returned (.bool true)) w') := Lib.hid fun w' h1 h2 => .inl ⟨h1, rfl, h2⟩
 have HW2 : Hid (∀ w', Q1c p i (Q0p M.regs i) = false → Ext w w' → Q49 p w B g vR vC vM vB vW (Q0n p) M i (.returned (.bool false)) w') := Lib.hid fun w' h1 h2 => .inr ⟨h1, rfl, h2⟩
 have HM : Hid (Q2v p i M = if Q08 i then { M with seen := M.seen ++ [⟨2, ((Q04 p i.c.toNat + (Q0p M.regs i).toNat : Nat) : Int), putN i⟩], words := M.words.set (Q04 p i.c.toNat + (Q0p M.regs i).toNat) (rg M.regs i.a) }
  else { M with seen := M.seen ++ [⟨2, ((Q04 p i.c.toNat + (Q0p M.regs i).toNat : Nat) : Int), putN i⟩], regs := rset M.regs i.a (M.words.getD (Q04 p i.c.toNat + (Q0p M.regs i).toNat) 0) }) := Lib.hid rfl
 generalize Q49 p w B g vR vC vM vB vW (Q0n p) M i = WP at *
 obtain ⟨op, a, b, c, n⟩ := i
 simp only at ha hb hc0 hc1 hbe hw6
 obtain ⟨a0, a1⟩ := Q0u.1 ha
 have CI := Lib.hid fun w' (hx : Ext w w') => Q47 w' (h.ext hx) ⟨op, a, b, c, n⟩ hb
 have CP := Lib.hid fun w' => Q3s ⟨op, a, b, c, n⟩ w'
 simp only [insV] at CI CP
 have HIn : Hid (∀ x, Q1c p ⟨op, a, b, c, n⟩ x = (decide (0 ≤ x) && decide (x < (Q0b (p.regs.getD c.toNat default) : Nat)))) := Lib.hid fun x => rfl
 unfold insV
 simp only
 clear hok hi hr hR hw h
 go_enter Try.func52, Try.ntmps52
 go_wp2_with fail
 obtain ⟨w0, e, he, hW, hs0, hx0, c0, c1, c2, c3, c4⟩ := new5 w 71 (.int .i64 op) (.int .i64 a) (.int .i64 b) (.int .i64 c) (.int .i64 n)
 rw [hW, he]
 have X := Lib.hid hx0
 have hge : g ≠ e := by omega
 have hew : w.heap.size = e := he
 clear hW hs0 hx0
 (with_reducible refine (CI.out w0 X.out).mono ?_)
 clear CI
 rintro er w1 ⟨rfl, hx⟩
 generalize Q0p M.regs ⟨op, a, b, c, n⟩ = x at *
 have X := Lib.hid (X.out.trans hx)
 have c0 := hx.kept c0
 have c1 := hx.kept c1
 have c2 := hx.kept c2
 have c3 := hx.kept c3
 have c4 := hx.kept c4
 clear hx
 go_wp2_with fail
 have C := Q97 w1 (H.out.ext X.out) p (HR.out.ext X.out) Hr.out c x hc0 hc1
 have Hc0 := Lib.hid hc0
 rw [← HIn.out] at C
 have HIx := Lib.hid (HIn.out x)
 cases hin : Q1c p ⟨op, a, b, c, n⟩ x
 ·rw [hin] at C HIx HW2
  (with_reducible refine C.mono ?_)
  clear C
  rintro er w2 ⟨rfl, hx⟩
  have X := Lib.hid (X.out.trans hx)
  clear hx hin
  go_wp2
  exact HW2.out _ (by trivial) X.out
 rw [hin] at C HIx HW
 (with_reducible refine C.mono ?_)
 clear C
 rintro er w2 ⟨rfl, hx⟩
 have hi2 := HIx.out.symm
 simp only [Bool.and_eq_true, decide_eq_true_eq] at hi2
 obtain ⟨hx0, hx1⟩ := hi2
 have X := Lib.hid (X.out.trans hx)
 have c0 := hx.kept c0
 have c1 := hx.kept c1
 have c2 := hx.kept c2
 have c3 := hx.kept c3
 have c4 := hx.kept c4
 have P := H.out.ext X.out
 obtain ⟨-, -, -, -, -, -, -, g17, -, g19⟩ := P.cells
 obtain ⟨kw, capw, hvw, hkw, hws⟩ := Q2n P.ws (show 0 < M.words.length by omega)
 obtain ⟨kb, capb, hvb, hkb, hbs⟩ := Q2n P.bs (show 0 < (Q0n p).length by rw [Q30]; omega)
 obtain ⟨b19, -⟩ := hbs c.toNat _ (by rw [Q30]; omega) (Q75 p hc1)
 have P := Lib.hid P
 rw [Q30] at hvb
 subst hvw
 subst hvb
 have hbb : (Q04 p c.toNat : Int) ≤ 384 := by omega
 have hcl : c < (p.regs.length : Int) := by omega
 have hql : Q04 p c.toNat + x.toNat < M.words.length := by omega
 have hixw : ∀ W, (Instr.indexAt 52 (.slice (some ⟨kw, 0, none⟩) M.words.length capw) (.int .i64 ((Q04 p c.toNat : Int) + x))).run Try.prog W = .ok (.pointer (some ⟨kw, Q04 p c.toNat + x.toNat, none⟩)) W := fun W => by
  have := Q4q W kw M.words.length capw ((Q04 p c.toNat : Int) + x) (by omega) (by omega)
  rw [show ((Q04 p c.toNat : Int) + x).toNat = Q04 p c.toNat + x.toNat by omega] at this
  exact this
 have Hq : Hid ((Q04 p c.toNat : Int) + x = ((Q04 p c.toNat + x.toNat : Nat) : Int)) := Lib.hid (by omega)
 have Hql := Lib.hid hql
 have hwr : IntKind.i64.wrap ((Q04 p c.toNat : Int) + x) = (Q04 p c.toNat : Int) + x := Go.IntWalk.i64_in _ (by omega)
 clear hwl
 clear hx hin hws hbs HW2 HIx HIn HR
 generalize hbo : Q04 p c.toNat = bo at *
 have hixb := Q98 kb p.regs.length capb
 have hixr := Q1s
 go_upto_region 4 with fail
 have k3 : ∀ W, Ext w2 W → W.cell? ⟨e, 3, none⟩ = some (.int .i64 c) := fun _ h => h.kept c3
 have k17 : ∀ W, Ext w2 W → W.cell? ⟨g, 17, none⟩ = some (.slice (some ⟨kw, 0, none⟩) M.words.length capw) := fun _ h => h.kept g17.1
 have k19 : ∀ W, Ext w2 W → W.cell? ⟨g, 19, none⟩ = some (.slice (some ⟨kb, 0, none⟩) p.regs.length capb) := fun _ h => h.kept g19.1
 have kb9 : ∀ W, Ext w2 W → W.cell? ⟨kb, c.toNat, none⟩ = some (.int .i64 (bo : Int)) := fun _ h => h.kept b19
 refine Q0t 17 (by kernel_rfl) (by kernel_rfl) ?_
 simp only [List.take_succ_cons, List.take_zero, List.drop_succ_cons, List.drop_zero]
 repeat (first | (refine Q0g ?_ ?_ (fun wc hE => ?_) ?_; (decide); rfl; (focus (go_simp; done)); go_simp) | (refine Q0a ?_ ?_ ?_; (decide); (first | rfl | (focus (go_simp; done))); apply Exists.intro; refine ⟨fun wc hE => ?_, ?_⟩; (go_simp; exact rfl); go_simp) | (refine Q0h ?_ ?_ ?_; (decide); (first | rfl | (focus (go_simp; done))); apply Exists.intro; refine ⟨fun wc hE => ?_, ?_⟩; (go_simp; (first | fail)); go_simp) | (refine Q0e ?_ ?_ ?_; (decide); (focus (go_simp; done)); go_simp))
 refine Q0f ?_
 intro w3 hx
 clear k3 k17 k19 kb9
 have X := Lib.hid (X.out.trans hx)
 have P := Lib.hid (P.out.ext hx)
 have c0 := hx.kept c0
 have c1 := hx.kept c1
 have c2 := hx.kept c2
 have c3 := hx.kept c3
 have c4 := hx.kept c4
 have g19 := hx.kept g19.1
 have b19 := hx.kept b19
 clear hx g17
 go_wp2_with fail
 cases hput : Q08 ⟨op, a, b, c, n⟩
 ·rw [hput] at CP
  simp only [hput, if_true, Bool.false_eq_true, if_false] at Hput HM
  rw [Hput.out] at HM
  clear Hput hput
  (with_reducible refine (CP.out w3).mono ?_)
  clear CP
  rintro er w4 ⟨rfl, hx⟩
  have X := Lib.hid (X.out.trans hx)
  have P := Lib.hid (P.out.ext hx)
  have c1 := hx.kept c1
  have c3 := hx.kept c3
  have g19 := hx.kept g19
  have b19 := hx.kept b19
  clear hx c0 c2 c4
  go_upto_region 8 with fail
  have k3 : ∀ W, Ext w4 W → W.cell? ⟨e, 3, none⟩ = some (.int .i64 c) := fun _ h => h.kept c3
  have k19 : ∀ W, Ext w4 W → W.cell? ⟨g, 19, none⟩ = some (.slice (some ⟨kb, 0, none⟩) p.regs.length capb) := fun _ h => h.kept g19
  have kb9 : ∀ W, Ext w4 W → W.cell? ⟨kb, c.toNat, none⟩ = some (.int .i64 (bo : Int)) := fun _ h => h.kept b19
  refine Q0t 12 (by kernel_rfl) (by kernel_rfl) ?_
  simp only [List.take_succ_cons, List.take_zero, List.drop_succ_cons, List.drop_zero]
  repeat (first | (refine Q0g ?_ ?_ (fun wc hE => ?_) ?_; (decide); rfl; (focus (go_simp; done)); go_simp) | (refine Q0a ?_ ?_ ?_; (decide); (first | rfl | (focus (go_simp; done))); apply Exists.intro; refine ⟨fun wc hE => ?_, ?_⟩; (go_simp; exact rfl); go_simp) | (refine Q0h ?_ ?_ ?_; (decide); (first | rfl | (focus (go_simp; done))); apply Exists.intro; refine ⟨fun wc hE => ?_, ?_⟩; (go_simp; (first | fail)); go_simp) | (refine Q0e ?_ ?_ ?_; (decide); (focus (go_simp; done)); go_simp))
  refine Q0f ?_
  intro w5 hx
  clear k3 k19 kb9
  have X := Lib.hid (X.out.trans hx)
  have P := Lib.hid (P.out.ext hx)
  have c1 := hx.kept c1
  clear hx c3 g19 b19
  go_wp2_with fail
  (with_reducible refine (Q2k w5 P.out 2 ((bo : Int) + x) 0 hsn).mono ?_)
  rintro er w6 ⟨rfl, vS2, P2, T2, N2⟩
  have hne : ¬ (e = g ∨ vS.ownBlock = some e) := by
   rintro (h1 | h1)
   ·omega
   ·have := (H.out.sn.lt e h1).2
    omega
  have hel := Q0m c1
  simp only at hel
  have c1 : w6.cell? ⟨e, 1, none⟩ = some (.int .i64 a) := by rw [Q3f T2 hel hne]; exact c1
  have HB := Lib.hid ((P.out.below T2))
  have hwq : w6.cell? ⟨kw, bo + x.toNat, none⟩ = some (.int .i64 (M.words.getD (bo + x.toNat) 0)) ∧ w6.frozen? ⟨kw, bo + x.toNat, none⟩ = false := by
   have h0 := P2.ws.cellAt (bo + x.toNat) (by simpa using Hql.out)
   have h1 := P2.ws.frozenAt (bo + x.toNat)
   refine ⟨?_, by simpa using h1⟩
   rw [h0]
   simp [Hql.out]
  obtain ⟨ra, fa⟩ := P2.reg Ha.out
  simp only at ra
  rw [Hq.out] at P2
  have P2 := Lib.hid P2
  have hgl := P2.out.box.lt
  have hkl := Q0m hwq.1
  simp only at hkl
  clear T2 N2 hne
  go_upto_region 11 with fail
  have k1 : ∀ W, Ext w6 W → W.cell? ⟨e, 1, none⟩ = some (.int .i64 a) := fun _ h => h.kept c1
  have ka : ∀ W, Ext w6 W → W.cell? ⟨kw, bo + x.toNat, none⟩ = some (.int .i64 (M.words.getD (bo + x.toNat) 0)) := fun _ h => h.kept hwq.1
  have rr : w6.cell? ⟨g, 7 + a.toNat, none⟩ = some (.int .i64 (rg M.regs a)) ∧ w6.frozen? ⟨g, 7 + a.toNat, none⟩ = false := ⟨ra, fa⟩
  generalize M.words.getD (bo + x.toNat) 0 = z at *
  refine Q0t 9 (by kernel_rfl) (by kernel_rfl) ?_
  simp only [List.take_succ_cons, List.take_zero, List.drop_succ_cons, List.drop_zero]
  repeat (first | (refine Q0g ?_ ?_ (fun wc hE => ?_) ?_; (decide); rfl; (focus (go_simp; done)); go_simp) | (refine Q0a ?_ ?_ ?_; (decide); (first | rfl | (focus (go_simp; done))); apply Exists.intro; refine ⟨fun wc hE => ?_, ?_⟩; (go_simp; exact rfl); go_simp) | (refine Q0h ?_ ?_ ?_; (decide); (first | rfl | (focus (go_simp; done))); apply Exists.intro; refine ⟨fun wc hE => ?_, ?_⟩; (go_simp; (first | fail)); go_simp) | (refine Q0e ?_ ?_ ?_; (decide); (focus (go_simp; done)); go_simp))
  refine Q0f ?_
  intro w7 hx
  have rr := Q07 hx rr
  have P2 := Lib.hid (P2.out.ext hx)
  have HB := Lib.hid ((HB.out.trans (Below.mono hx (Nat.le_trans P.out.size (HB.out.size)))))
  clear k1 ka hx ra fa c1 hwq
  go_wp2
  refine HW.out _ (by trivial) ⟨vS2, ?_, ?_⟩
  ·have := P2.out.reg_ Ha.out z
   rw [HM.out]
   exact this
  ·exact (Below.mono X.out H.out.size).trans (HB.out.setCell P2.out.hg _)
 ·rw [hput] at CP
  simp only [hput, if_true, Bool.false_eq_true, if_false] at Hput HM
  rw [Hput.out] at HM
  clear Hput hput
  (with_reducible refine (CP.out w3).mono ?_)
  clear CP
  rintro er w4 ⟨rfl, hx⟩
  have X := Lib.hid (X.out.trans hx)
  have P := Lib.hid (P.out.ext hx)
  have c1 := hx.kept c1
  have c3 := hx.kept c3
  have g19 := hx.kept g19
  have b19 := hx.kept b19
  clear hx c0 c2 c4
  go_upto_region 8 with fail
  have k3 : ∀ W, Ext w4 W → W.cell? ⟨e, 3, none⟩ = some (.int .i64 c) := fun _ h => h.kept c3
  have k19 : ∀ W, Ext w4 W → W.cell? ⟨g, 19, none⟩ = some (.slice (some ⟨kb, 0, none⟩) p.regs.length capb) := fun _ h => h.kept g19
  have kb9 : ∀ W, Ext w4 W → W.cell? ⟨kb, c.toNat, none⟩ = some (.int .i64 (bo : Int)) := fun _ h => h.kept b19
  refine Q0t 12 (by kernel_rfl) (by kernel_rfl) ?_
  simp only [List.take_succ_cons, List.take_zero, List.drop_succ_cons, List.drop_zero]
  repeat (first | (refine Q0g ?_ ?_ (fun wc hE => ?_) ?_; (decide); rfl; (focus (go_simp; done)); go_simp) | (refine Q0a ?_ ?_ ?_; (decide); (first | rfl | (focus (go_simp; done))); apply Exists.intro; refine ⟨fun wc hE => ?_, ?_⟩; (go_simp; exact rfl); go_simp) | (refine Q0h ?_ ?_ ?_; (decide); (first | rfl | (focus (go_simp; done))); apply Exists.intro; refine ⟨fun wc hE => ?_, ?_⟩; (go_simp; (first | fail)); go_simp) | (refine Q0e ?_ ?_ ?_; (decide); (focus (go_simp; done)); go_simp))
  refine Q0f ?_
  intro w5 hx
  clear k3 k19 kb9
  have X := Lib.hid (X.out.trans hx)
  have P := Lib.hid (P.out.ext hx)
  have c1 := hx.kept c1
  clear hx c3 g19 b19
  go_wp2_with fail
  (with_reducible refine (Q2k w5 P.out 2 ((bo : Int) + x) 1 hsn).mono ?_)
  rintro er w6 ⟨rfl, vS2, P2, T2, N2⟩
  have hne : ¬ (e = g ∨ vS.ownBlock = some e) := by
   rintro (h1 | h1)
   ·omega
   ·have := (H.out.sn.lt e h1).2
    omega
  have hel := Q0m c1
  simp only at hel
  have c1 : w6.cell? ⟨e, 1, none⟩ = some (.int .i64 a) := by rw [Q3f T2 hel hne]; exact c1
  have HB := Lib.hid ((P.out.below T2))
  have hwq : w6.cell? ⟨kw, bo + x.toNat, none⟩ = some (.int .i64 (M.words.getD (bo + x.toNat) 0)) ∧ w6.frozen? ⟨kw, bo + x.toNat, none⟩ = false := by
   have h0 := P2.ws.cellAt (bo + x.toNat) (by simpa using Hql.out)
   have h1 := P2.ws.frozenAt (bo + x.toNat)
   refine ⟨?_, by simpa using h1⟩
   rw [h0]
   simp [Hql.out]
  obtain ⟨ra, fa⟩ := P2.reg Ha.out
  simp only at ra
  rw [Hq.out] at P2
  have P2 := Lib.hid P2
  have hgl := P2.out.box.lt
  have hkl := Q0m hwq.1
  simp only at hkl
  clear T2 N2 hne
  go_upto_region 10 with fail
  have k1 : ∀ W, Ext w6 W → W.cell? ⟨e, 1, none⟩ = some (.int .i64 a) := fun _ h => h.kept c1
  have ka : ∀ W, Ext w6 W → W.cell? ⟨g, 7 + a.toNat, none⟩ = some (.int .i64 (rg M.regs a)) := fun _ h => h.kept ra
  refine Q0t 9 (by kernel_rfl) (by kernel_rfl) ?_
  simp only [List.take_succ_cons, List.take_zero, List.drop_succ_cons, List.drop_zero]
  repeat (first | (refine Q0g ?_ ?_ (fun wc hE => ?_) ?_; (decide); rfl; (focus (go_simp; done)); go_simp) | (refine Q0a ?_ ?_ ?_; (decide); (first | rfl | (focus (go_simp; done))); apply Exists.intro; refine ⟨fun wc hE => ?_, ?_⟩; (go_simp; exact rfl); go_simp) | (refine Q0h ?_ ?_ ?_; (decide); (first | rfl | (focus (go_simp; done))); apply Exists.intro; refine ⟨fun wc hE => ?_, ?_⟩; (go_simp; (first | fail)); go_simp) | (refine Q0e ?_ ?_ ?_; (decide); (focus (go_simp; done)); go_simp))
  refine Q0f ?_
  intro w7 hx
  have hwq := Q07 hx hwq
  have P2 := Lib.hid (P2.out.ext hx)
  have HB := Lib.hid ((HB.out.trans (Below.mono hx (Nat.le_trans P.out.size (HB.out.size)))))
  clear k1 ka hx ra fa c1
  go_wp2
  refine HW.out _ (by trivial) ⟨vS2, ?_, ?_⟩
  ·have := P2.out.word (x := bo + x.toNat) rfl (rg M.regs a)
   rw [HM.out]
   exact this
  ·exact (Below.mono X.out H.out.size).trans (HB.out.setCell hkw _)
end Go.Proofs.Ytalpnmjaafcpoaa
