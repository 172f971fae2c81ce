/- Laid together from: LoadW, Lm, Get8. -/
import Derived.Test.YteiknefajlocoaaLoadQuietB42
import Derived.Test.YteiknefajlocoaaLoadQuietB14
import Derived.Test.YteiknefajlocoaaLoadQuietB27
import Derived.Test.YteiknefajlocoaaLoadQuietB9
import Derived.Test.YteiknefajlocoaaLoadQuietB28
import Derived.Test.YteiknefajlocoaaLoadQuietB23

namespace Go.Proofs.Yteiknefajlocoaa
open Go.ChangeShapes Go.WideShapes Go.ChangeAt Go.RowKit
set_option linter.unusedVariables false
set_option linter.unusedSimpArgs false
structure LSt (w0 wr : World) (B go : Nat) (vR vC vP : Value) (code : List LIns) (places : List Int) : Prop where
 box : Blk wr go 123 #[vR, vC]
 cd : wr.ownsRow B 70 5 vC code.length (code.flatMap Q1m)
 pl : wr.ownsRow B 3 1 vP places.length (places.map (Value.int .i64))
 ext : Ext w0 wr
 hg : B ≤ go
 hB : w0.heap.size ≤ B
section
variable {w0 wr w' : World} {B go : Nat} {vR vC vP : Value} {code : List LIns} {places : List Int}
theorem LSt.size (h : LSt w0 wr B go vR vC vP code places) : B ≤ wr.heap.size := by have := h.box.lt; have := h.hg; omega
theorem LSt.extend (h : LSt w0 wr B go vR vC vP code places) (hx : Ext wr w') : LSt w0 w' B go vR vC vP code places :=
 ⟨h.box.ext hx, Q34 h.cd hx, Q34 h.pl hx, h.ext.trans hx, h.hg, h.hB⟩
theorem LSt.cells (h : LSt w0 wr B go vR vC vP code places) : (wr.cell? ⟨go, 0, none⟩ = some vR ∧ wr.frozen? ⟨go, 0, none⟩ = false) ∧ (wr.cell? ⟨go, 1, none⟩ = some vC ∧ wr.frozen? ⟨go, 1, none⟩ = false) :=
 ⟨⟨by rw [h.box.cell]; rfl, h.box.frozen _⟩, ⟨by rw [h.box.cell]; rfl, h.box.frozen _⟩⟩
theorem LSt.place (h : LSt w0 wr B go vR vC vP code places) {vP' : Value} {ps : List Int} (hg : wr.grownBy w' vP.ownBlock) (ho : w'.ownsRow B 3 1 vP' ps.length (ps.map (Value.int .i64))) : LSt w0 w' B go vR vC vP' code ps :=
 ⟨h.box.grown hg (Q09 h.pl h.box (by decide)), Q22 h.cd hg (fun k hk he => Q1w h.pl h.cd (by decide) k hk he), ho,
  Q4q h.ext hg h.ext.size (fun k hk => Nat.le_trans h.hB (Q3r h.pl k hk)), h.hg, h.hB⟩
theorem LSt.code_ (h : LSt w0 wr B go vR vC vP code places) {vC' : Value} {cs : List LIns} (hg : wr.grownBy w' vC.ownBlock) (ho : w'.ownsRow B 70 5 vC' cs.length (cs.flatMap Q1m)) : LSt w0 (w'.setCell ⟨go, 1, none⟩ vC') B go vR vC' vP cs places := by
 have hb := h.box.grown hg (Q09 h.cd h.box (by decide))
 have hp := Q22 h.pl hg (fun k hk he => Q1w h.cd h.pl (by decide) k hk he)
 exact ⟨hb.set_ 1 vC', Q1e ho (Q09 ho hb (by decide)) _, Q1e hp (Q09 hp hb (by decide)) _,
  (Q4q h.ext hg h.ext.size (fun k hk => Nat.le_trans h.hB (Q3r h.cd k hk))).setCell (p := ⟨go, 1, none⟩) (Nat.le_trans h.hB h.hg) _, h.hg, h.hB⟩
theorem LSt.setN {kc cap n : Nat} (h : LSt w0 wr B go vR (.slice (some ⟨kc, 0, none⟩) n cap) vP code places) {k : Nat} (hk : k < code.length) (x : Int) :
  LSt w0 (wr.setCell ⟨kc, k * 5 + 4, none⟩ (.int .i64 x)) B go vR (.slice (some ⟨kc, 0, none⟩) n cap) vP (code.set k { code.getD k default with n := x }) places := by
 have hkB := Q3r h.cd kc rfl
 have hp : some kc ≠ vP.ownBlock := fun e => Q1w h.pl h.cd (by decide) kc e.symm rfl
 have hgk : go ≠ kc := fun e => Q09 h.cd h.box (by decide) (by rw [e]; rfl)
 exact ⟨h.box.far (p := ⟨kc, k * 5 + 4, none⟩) hgk _, Qf5 h.cd hk x, Q1e h.pl hp _, h.ext.setCell (p := ⟨kc, k * 5 + 4, none⟩) (Nat.le_trans h.hB hkB) _, h.hg, h.hB⟩
end
structure Q4x (w w' : World) (go : Nat) (vC vC' : Value) : Prop where
 keep : ∀ {g : Nat} {T : TypeId} {cs : Array Value}, Blk w g T cs → g ≠ go → vC.ownBlock ≠ some g → Blk w' g T cs
 old : ∀ k, vC'.ownBlock = some k → vC.ownBlock = some k ∨ w.heap.size ≤ k
 size : w.heap.size ≤ w'.heap.size
theorem Q4x.trans {w w1 w2 : World} {go : Nat} {v v1 v2 : Value} (h : Q4x w w1 go v v1) (k : Q4x w1 w2 go v1 v2) : Q4x w w2 go v v2 :=
 ⟨fun hb h1 h2 => k.keep (h.keep hb h1 h2) h1 (fun e => by
  rcases h.old _ e with e | e
  ·exact h2 e
  ·have := hb.lt; omega), fun j e => by
  rcases k.old j e with e | e
  ·exact h.old j e
  ·exact .inr (Nat.le_trans h.size e), Nat.le_trans h.size k.size⟩
theorem Q4x.refl (w : World) (go : Nat) (v : Value) : Q4x w w go v v := ⟨fun h _ _ => h, fun _ e => .inl e, Nat.le_refl _⟩
def Qd7 (w0 : World) (B go : Nat) (vR vP vC : Value) (w : World) (cs : List LIns) (places : List Int) (e : Ending) (w' : World) : Prop :=
 e = .returned (.tuple #[]) ∧ ∃ oC cC, LSt w0 w' B go vR (.slice oC cs.length cC) vP cs places ∧ Q4x w w' go vC (.slice oC cs.length cC)
set_option maxRecDepth 100000 in
set_option maxHeartbeats 4000000 in
theorem Q3k {w0 : World} {B go : Nat} {vR vP : Value} {oC : Option Addr} {cC : Nat} {code : List LIns} {places : List Int} (op a b c n : Int) (w : World) (h : LSt w0 w B go vR (.slice oC code.length cC) vP code places) (hl : code.length ≤ 1000000) :
  Calls Try.prog 117 #[.pointer (some ⟨go, 0, none⟩), .int .i64 op, .int .i64 a, .int .i64 b, .int .i64 c, .int .i64 n] w (Qd7 w0 B go vR vP (.slice oC code.length cC) w (code ++ [⟨op, a, b, c, n⟩]) places) := by
 have H := Lib.hid h
 obtain ⟨j0, hj0, hy0, hy1, hy2⟩ := info_parts Qch
 obtain ⟨d0, d1⟩ := h.cells
 have hgo := h.box.lt
 have hBs := h.size
 clear h
 go_enter Try.func117, Try.ntmps117
 go_wp2_with (at_builtin; refine Q2h _ rfl _ _ 23 rfl B 70 j0 _ 5 40 Try.underlying23 hj0 hy0 hy1 hy2 rfl (by decide) _ _ _ rfl (Q3d H.out.cd) (some ⟨w.heap.size, 0, none⟩) 1 1 (Q1m ⟨op, a, b, c, n⟩) rfl ?c1 ?c3 ?c4 ?c5 ?_)
 case c1 => exact Q41 (size := 5) (Blk.new w 70 #[.int .i64 op, .int .i64 a, .int .i64 b, .int .i64 c, .int .i64 n]) rfl (by simp [Value.oneCell'])
 case c3 => unfold maxLen; omega
 case c4 => omega
 case c5 => simp; omega
 intro vC' w7 hown hgrow hat2
 obtain ⟨oC2, cC2, rfl⟩ := Q13 hown
 have hxa := (Ext.refl w).alloc (.cells #[.int .i64 op, .int .i64 a, .int .i64 b, .int .i64 c, .int .i64 n] 70)
 have HSa := H.out.extend hxa
 have hgrow : (w.alloc (.cells #[.int .i64 op, .int .i64 a, .int .i64 b, .int .i64 c, .int .i64 n] 70)).grownBy w7 (Value.slice oC code.length cC).ownBlock := hgrow
 have hlen : (code ++ ([⟨op, a, b, c, n⟩] : List LIns)).length = code.length + 1 := by simp
 have HS7 : Hid (LSt w0 (w7.setCell ⟨go, 1, none⟩ (.slice oC2 (code.length + 1) cC2)) B go vR (.slice oC2 (code.length + 1) cC2) vP (code ++ [⟨op, a, b, c, n⟩]) places) := Lib.hid (HSa.code_ hgrow (by rw [hlen, List.flatMap_append]; simpa using hown))
 have hb7 := HSa.box.grown hgrow (Q09 HSa.cd HSa.box (by decide))
 have q1 : w7.cell? ⟨go, 1, none⟩ = some (.slice oC code.length cC) ∧ w7.frozen? ⟨go, 1, none⟩ = false := ⟨by rw [hb7.cell]; rfl, hb7.frozen _⟩
 have hgo7 := hb7.lt
 have Hlen := Lib.hid hlen
 have HK : Hid (Q4x w (w7.setCell ⟨go, 1, none⟩ (.slice oC2 (code.length + 1) cC2)) go (.slice oC code.length cC) (.slice oC2 (code.length + 1) cC2)) := Lib.hid ⟨fun hb h1 h2 => ((hb.ext hxa).grown hgrow (fun e => h2 e.symm)).far (p := ⟨go, 1, none⟩) h1 _, fun k hk => by
  rcases hat2 with e | e
  ·left; rw [← e]; exact hk
  ·right
   have e2 : (Value.slice oC2 (code.length + 1) cC2).ownBlock = some k := hk
   rw [e] at e2
   simp only [Option.some.injEq] at e2
   omega, by
  have h1 := hgrow.size
  rw [World.size_alloc] at h1
  rw [Q2w]
  omega⟩
 clear hown hgrow hxa HSa hb7 hlen d0 d1 hat2
 go_wp2
 try refine bodyPost_end (results_none rfl _ _ _) rfl ?_
 exact ⟨rfl, oC2, cC2, by rw [Hlen.out]; exact HS7.out, by rw [Hlen.out]; exact HK.out⟩
theorem Qaj (x : Int) : bits .and .i64 x 8191 = x % 8192 := by
 have e : bits .and .i64 x 8191 = IntKind.i64.wrap ((BitVec.ofInt 64 x &&& BitVec.ofInt 64 8191).toNat : Int) := rfl
 have h13 : (BitVec.ofInt 64 8191).toNat = 2 ^ 13 - 1 := by decide
 rw [e, BitVec.toNat_and, h13, Nat.and_two_pow_sub_one_eq_mod, BitVec.toNat_ofInt]
 rw [Go.IntWalk.i64_in _ (by omega)]
 omega
def numP (to_ n : Int) (m : Nat) : List LIns := ⟨1, to_, 0, 0, n / 4503599627370496⟩ :: (List.range m).flatMap fun j => Q58 to_ (Q2d n (3 - j))
theorem Qnt (to_ n : Int) {m : Nat} (hm : m ≤ 4) : (numP to_ n m).length = 1 + 4 * m := by
 rcases (show m = 0 ∨ m = 1 ∨ m = 2 ∨ m = 3 ∨ m = 4 by omega) with rfl | rfl | rfl | rfl | rfl <;> rfl
theorem Qjh (n : Int) : bits .and .i64 (n / 549755813888) 8191 = Q2d n 3 := by rw [Qaj]; rfl
theorem Qji (n : Int) : bits .and .i64 (n / 67108864) 8191 = Q2d n 2 := by rw [Qaj]; rfl
theorem Qjj (n : Int) : bits .and .i64 (n / 8192) 8191 = Q2d n 1 := by rw [Qaj]; rfl
theorem Qjk (n : Int) : bits .and .i64 n 8191 = Q2d n 0 := by rw [Qaj]; unfold Q2d; simp
set_option maxRecDepth 100000 in
set_option maxHeartbeats 4000000 in
theorem Qfv {w0 : World} {B go : Nat} {vR vP : Value} {oC : Option Addr} {cC : Nat} {code : List LIns} {places : List Int} (to_ n : Int) (w : World) (h : LSt w0 w B go vR (.slice oC code.length cC) vP code places) (hl : code.length ≤ 900000) :
  Calls Try.prog 115 #[.pointer (some ⟨go, 0, none⟩), .int .i64 to_, .int .i64 n] w (Qd7 w0 B go vR vP (.slice oC code.length cC) w (code ++ numC to_ n) places) := by
 have H := Lib.hid h
 clear h
 go_enter Try.func115, Try.ntmps115
 go_wp2_with fail
 (with_reducible refine (Q9b n w).mono ?_)
 rintro e w1 ⟨rfl, rfl⟩
 cases hf : Q1h n
 ·have Hn : Hid (numC to_ n = numP to_ n 4) := Lib.hid (by unfold numC; rw [hf]; simp [numP, Q58, List.range_succ])
  clear hf
  go_wp2_with fail
  (with_reducible refine (Q3k 1 to_ 0 0 (n / 4503599627370496) w H.out (by omega)).mono ?_)
  rintro e w2 ⟨rfl, oC2, cC2, hS, hK⟩
  have HS := Lib.hid hS
  have HK := Lib.hid hK
  clear hS hK
  go_wp2_with fail
  go_loopw [6] (fun i wr => ∃ (m : Nat) (oD : Option Addr) (cD : Nat), i = .int .i64 (3 - (m : Int)) ∧ m ≤ 4 ∧ LSt w0 wr B go vR (.slice oD (code ++ numP to_ n m).length cD) vP (code ++ numP to_ n m) places ∧ Q4x w wr go (.slice oC code.length cC) (.slice oD (code ++ numP to_ n m).length cD)) (fun i _ => (intOf i + 1).toNat)
  case atStart => exact ⟨0, oC2, cC2, rfl, by omega, HS.out, HK.out⟩
  case round =>
   obtain ⟨m, oD, cD, rfl, hm, hS, hK⟩ := hrel
   have HS := Lib.hid hS
   have HK := Lib.hid hK
   clear hS hK
   have hln : (code ++ numP to_ n m).length = code.length + (1 + 4 * m) := by rw [List.length_append, Qnt _ _ hm]
   by_cases h4 : m = 4
   ·subst h4
    go_wp2
    try refine bodyPost_end (results_none rfl _ _ _) rfl ?_
    rw [Hn.out]
    exact ⟨rfl, oD, cD, HS.out, HK.out⟩
   ·rcases (show m = 0 ∨ m = 1 ∨ m = 2 ∨ m = 3 by omega) with rfl | rfl | rfl | rfl
    ·have hsh := Qjh n
     go_wp2_with fail
     have C := Q3k 1 9 0 0 13 wr HS.out (by rw [hln]; omega)
     (with_reducible refine C.mono ?_)
     clear C
     rintro e0 v0 ⟨rfl, oD0, cD0, hS0, hK0⟩
     have H0 := Lib.hid hS0
     have HK := Lib.hid (HK.out.trans hK0)
     clear hS0 hK0
     go_wp2_with fail
     have C := Q3k 27 to_ to_ 9 0 v0 H0.out (by simp only [List.length_append, hln, List.length_cons, List.length_nil]; omega)
     (with_reducible refine C.mono ?_)
     clear C
     rintro e1 v1 ⟨rfl, oD1, cD1, hS1, hK1⟩
     have H1 := Lib.hid hS1
     have HK := Lib.hid (HK.out.trans hK1)
     clear hS1 hK1
     go_wp2_with fail
     try rw [hsh]
     have C := Q3k 1 9 0 0 (Q2d n 3) v1 H1.out (by simp only [List.length_append, hln, List.length_cons, List.length_nil]; omega)
     (with_reducible refine C.mono ?_)
     clear C
     rintro e2 v2 ⟨rfl, oD2, cD2, hS2, hK2⟩
     have H2 := Lib.hid hS2
     have HK := Lib.hid (HK.out.trans hK2)
     clear hS2 hK2
     go_wp2_with fail
     have C := Q3k 25 to_ to_ 9 0 v2 H2.out (by simp only [List.length_append, hln, List.length_cons, List.length_nil]; omega)
     (with_reducible refine C.mono ?_)
     clear C
     rintro e3 v3 ⟨rfl, oD3, cD3, hS3, hK3⟩
     have H3 := Lib.hid hS3
     have HK := Lib.hid (HK.out.trans hK3)
     clear hS3 hK3
     have Hn : Hid (numP to_ n 1 = numP to_ n 0 ++ [⟨1, 9, 0, 0, 13⟩, ⟨27, to_, to_, 9, 0⟩, ⟨1, 9, 0, 0, Q2d n 3⟩, ⟨25, to_, to_, 9, 0⟩]) := Lib.hid (by first | rfl | simp [numP, Q58])
     go_wp2
     go_roundw
     case rel =>
      have h' := H3.out
      have k' := HK.out
      simp only [List.append_assoc, List.cons_append, List.nil_append] at h' k'
      exact ⟨1, _, _, by first | rfl | go_num, by omega, by rw [Hn.out]; exact h', by rw [Hn.out]; exact k'⟩
     case measure => first | (simp [intOf]; done) | (simp [intOf]; omega)
    ·have hsh := Qji n
     go_wp2_with fail
     have C := Q3k 1 9 0 0 13 wr HS.out (by rw [hln]; omega)
     (with_reducible refine C.mono ?_)
     clear C
     rintro e0 v0 ⟨rfl, oD0, cD0, hS0, hK0⟩
     have H0 := Lib.hid hS0
     have HK := Lib.hid (HK.out.trans hK0)
     clear hS0 hK0
     go_wp2_with fail
     have C := Q3k 27 to_ to_ 9 0 v0 H0.out (by simp only [List.length_append, hln, List.length_cons, List.length_nil]; omega)
     (with_reducible refine C.mono ?_)
     clear C
     rintro e1 v1 ⟨rfl, oD1, cD1, hS1, hK1⟩
     have H1 := Lib.hid hS1
     have HK := Lib.hid (HK.out.trans hK1)
     clear hS1 hK1
     go_wp2_with fail
     try rw [hsh]
     have C := Q3k 1 9 0 0 (Q2d n 2) v1 H1.out (by simp only [List.length_append, hln, List.length_cons, List.length_nil]; omega)
     (with_reducible refine C.mono ?_)
     clear C
     rintro e2 v2 ⟨rfl, oD2, cD2, hS2, hK2⟩
     have H2 := Lib.hid hS2
     have HK := Lib.hid (HK.out.trans hK2)
     clear hS2 hK2
     go_wp2_with fail
     have C := Q3k 25 to_ to_ 9 0 v2 H2.out (by simp only [List.length_append, hln, List.length_cons, List.length_nil]; omega)
     (with_reducible refine C.mono ?_)
     clear C
     rintro e3 v3 ⟨rfl, oD3, cD3, hS3, hK3⟩
     have H3 := Lib.hid hS3
     have HK := Lib.hid (HK.out.trans hK3)
     clear hS3 hK3
     have Hn : Hid (numP to_ n 2 = numP to_ n 1 ++ [⟨1, 9, 0, 0, 13⟩, ⟨27, to_, to_, 9, 0⟩, ⟨1, 9, 0, 0, Q2d n 2⟩, ⟨25, to_, to_, 9, 0⟩]) := Lib.hid (by first | rfl | simp [numP, Q58])
     go_wp2
     go_roundw
     case rel =>
      have h' := H3.out
      have k' := HK.out
      simp only [List.append_assoc, List.cons_append, List.nil_append] at h' k'
      exact ⟨2, _, _, by first | rfl | go_num, by omega, by rw [Hn.out]; exact h', by rw [Hn.out]; exact k'⟩
     case measure => first | (simp [intOf]; done) | (simp [intOf]; omega)
    ·have hsh := Qjj n
     go_wp2_with fail
     have C := Q3k 1 9 0 0 13 wr HS.out (by rw [hln]; omega)
     (with_reducible refine C.mono ?_)
     clear C
     rintro e0 v0 ⟨rfl, oD0, cD0, hS0, hK0⟩
     have H0 := Lib.hid hS0
     have HK := Lib.hid (HK.out.trans hK0)
     clear hS0 hK0
     go_wp2_with fail
     have C := Q3k 27 to_ to_ 9 0 v0 H0.out (by simp only [List.length_append, hln, List.length_cons, List.length_nil]; omega)
     (with_reducible refine C.mono ?_)
     clear C
     rintro e1 v1 ⟨rfl, oD1, cD1, hS1, hK1⟩
     have H1 := Lib.hid hS1
     have HK := Lib.hid (HK.out.trans hK1)
     clear hS1 hK1
     go_wp2_with fail
     try rw [hsh]
     have C := Q3k 1 9 0 0 (Q2d n 1) v1 H1.out (by simp only [List.length_append, hln, List.length_cons, List.length_nil]; omega)
     (with_reducible refine C.mono ?_)
     clear C
     rintro e2 v2 ⟨rfl, oD2, cD2, hS2, hK2⟩
     have H2 := Lib.hid hS2
     have HK := Lib.hid (HK.out.trans hK2)
     clear hS2 hK2
     go_wp2_with fail
     have C := Q3k 25 to_ to_ 9 0 v2 H2.out (by simp only [List.length_append, hln, List.length_cons, List.length_nil]; omega)
     (with_reducible refine C.mono ?_)
     clear C
     rintro e3 v3 ⟨rfl, oD3, cD3, hS3, hK3⟩
     have H3 := Lib.hid hS3
     have HK := Lib.hid (HK.out.trans hK3)
     clear hS3 hK3
     have Hn : Hid (numP to_ n 3 = numP to_ n 2 ++ [⟨1, 9, 0, 0, 13⟩, ⟨27, to_, to_, 9, 0⟩, ⟨1, 9, 0, 0, Q2d n 1⟩, ⟨25, to_, to_, 9, 0⟩]) := Lib.hid (by first | rfl | simp [numP, Q58])
     go_wp2
     go_roundw
     case rel =>
      have h' := H3.out
      have k' := HK.out
      simp only [List.append_assoc, List.cons_append, List.nil_append] at h' k'
      exact ⟨3, _, _, by first | rfl | go_num, by omega, by rw [Hn.out]; exact h', by rw [Hn.out]; exact k'⟩
     case measure => first | (simp [intOf]; done) | (simp [intOf]; omega)
    ·have hsh := Qjk n
     go_wp2_with fail
     have C := Q3k 1 9 0 0 13 wr HS.out (by rw [hln]; omega)
     (with_reducible refine C.mono ?_)
     clear C
     rintro e0 v0 ⟨rfl, oD0, cD0, hS0, hK0⟩
     have H0 := Lib.hid hS0
     have HK := Lib.hid (HK.out.trans hK0)
     clear hS0 hK0
     go_wp2_with fail
     have C := Q3k 27 to_ to_ 9 0 v0 H0.out (by simp only [List.length_append, hln, List.length_cons, List.length_nil]; omega)
     (with_reducible refine C.mono ?_)
     clear C
     rintro e1 v1 ⟨rfl, oD1, cD1, hS1, hK1⟩
     have H1 := Lib.hid hS1
     have HK := Lib.hid (HK.out.trans hK1)
     clear hS1 hK1
     go_wp2_with fail
     try rw [hsh]
     have C := Q3k 1 9 0 0 (Q2d n 0) v1 H1.out (by simp only [List.length_append, hln, List.length_cons, List.length_nil]; omega)
     (with_reducible refine C.mono ?_)
     clear C
     rintro e2 v2 ⟨rfl, oD2, cD2, hS2, hK2⟩
     have H2 := Lib.hid hS2
     have HK := Lib.hid (HK.out.trans hK2)
     clear hS2 hK2
     go_wp2_with fail
     have C := Q3k 25 to_ to_ 9 0 v2 H2.out (by simp only [List.length_append, hln, List.length_cons, List.length_nil]; omega)
     (with_reducible refine C.mono ?_)
     clear C
     rintro e3 v3 ⟨rfl, oD3, cD3, hS3, hK3⟩
     have H3 := Lib.hid hS3
     have HK := Lib.hid (HK.out.trans hK3)
     clear hS3 hK3
     have Hn : Hid (numP to_ n 4 = numP to_ n 3 ++ [⟨1, 9, 0, 0, 13⟩, ⟨27, to_, to_, 9, 0⟩, ⟨1, 9, 0, 0, Q2d n 0⟩, ⟨25, to_, to_, 9, 0⟩]) := Lib.hid (by first | rfl | simp [numP, Q58])
     go_wp2
     go_roundw
     case rel =>
      have h' := H3.out
      have k' := HK.out
      simp only [List.append_assoc, List.cons_append, List.nil_append] at h' k'
      exact ⟨4, _, _, by first | rfl | go_num, by omega, by rw [Hn.out]; exact h', by rw [Hn.out]; exact k'⟩
     case measure => first | (simp [intOf]; done) | (simp [intOf]; omega)
 ·have Hn : Hid (numC to_ n = [⟨1, to_, 0, 0, n⟩]) := Lib.hid (by unfold numC; rw [if_pos hf])
  clear hf
  go_wp2_with fail
  (with_reducible refine (Q3k 1 to_ 0 0 n w H.out (by omega)).mono ?_)
  rintro e w2 ⟨rfl, oC2, cC2, hS, hK⟩
  have HS := Lib.hid hS
  have HK := Lib.hid hK
  clear hS hK
  go_wp2
  try refine bodyPost_end (results_none rfl _ _ _) rfl ?_
  rw [Hn.out]
  exact ⟨rfl, oC2, cC2, HS.out, HK.out⟩
set_option maxRecDepth 100000 in
set_option maxHeartbeats 4000000 in
theorem Qop {w0 : World} {B go : Nat} {vR vP : Value} {oC : Option Addr} {cC : Nat} {code : List LIns} {places : List Int} (op a b c n : Int) (w : World) (h : LSt w0 w B go vR (.slice oC code.length cC) vP code places) (hl : code.length ≤ 800000) :
  Calls Try.prog 78 #[.pointer (some ⟨go, 0, none⟩), .agg #[.int .i64 op, .int .i64 a, .int .i64 b, .int .i64 c, .int .i64 n]] w (Qd7 w0 B go vR vP (.slice oC code.length cC) w (code ++ insC ⟨op, a, b, c, n⟩) places) := by
 have H := Lib.hid h
 obtain ⟨j0, hj0, hy0, hy1, hy2⟩ := info_parts Qch
 have hB0 := h.size
 clear h
 go_enter Try.func78, Try.ntmps78
 go_upto_region 2 with fail
 obtain ⟨W, gi, hg, hW, hx, bI⟩ := Q14 w #[.int .i64 op, .int .i64 a, .int .i64 b, .int .i64 c, .int .i64 n] 70
 rw [hW, hg]
 have HS := Lib.hid (H.out.extend hx)
 have BI := Lib.hid bI
 have i0 : W.cell? ⟨gi, 0, none⟩ = some (.int .i64 op) := by rw [bI.cell]; rfl
 have i1 : W.cell? ⟨gi, 1, none⟩ = some (.int .i64 a) := by rw [bI.cell]; rfl
 have i2 : W.cell? ⟨gi, 2, none⟩ = some (.int .i64 b) := by rw [bI.cell]; rfl
 have i3 : W.cell? ⟨gi, 3, none⟩ = some (.int .i64 c) := by rw [bI.cell]; rfl
 have i4 : W.cell? ⟨gi, 4, none⟩ = some (.int .i64 n) := by rw [bI.cell]; rfl
 have hgi := bI.lt
 have HgB : Hid (∀ k, (Value.slice oC code.length cC).ownBlock = some k → k < gi) := Lib.hid fun k hk => by
  have := (H.out.cd.lt k hk).2
  omega
 have HgB2 : Hid (w.heap.size = gi) := Lib.hid hg
 have hgg : go < gi := by have := H.out.box.lt; omega
 have HKW : Hid (Q4x w W go (.slice oC code.length cC) (.slice oC code.length cC)) := Lib.hid ⟨fun hb _ _ => hb.ext hx, fun _ e => .inl e, hx.size⟩
 clear hW hg hx bI
 by_cases h1 : op = 1
 ·subst h1
  have Hn : Hid (insC ⟨1, a, b, c, n⟩ = numC a n) := Lib.hid (by unfold insC; simp)
  go_wp2_with fail
  have C := Qfv a n W HS.out (by omega)
  (with_reducible refine C.mono ?_)
  clear C
  rintro e w2 ⟨rfl, oD, cD, hS, hK⟩
  have HS := Lib.hid hS
  have HK := Lib.hid (HKW.out.trans hK)
  clear hS hK
  go_wp2
  try refine bodyPost_end (results_none rfl _ _ _) rfl ?_
  rw [Hn.out]
  exact ⟨rfl, oD, cD, HS.out, HK.out⟩
 ·have hq1 : (op == (1 : Int)) = false := by simp [h1]
  by_cases h10 : op = 10 ∧ Q1h n = false
  ·obtain ⟨rfl, hf⟩ := h10
   have Hn : Hid (insC ⟨10, a, b, c, n⟩ = numC 8 n ++ [⟨21, a, b, 8, 0⟩]) := Lib.hid (by unfold insC; simp [hf])
   have hnl : (numC 8 n).length = 17 := by rw [Q73, hf]; rfl
   clear h1
   go_wp2_with fail
   (with_reducible refine (Q9b n W).mono ?_)
   rintro e w1 ⟨rfl, rfl⟩
   rw [hf]
   go_wp2_with fail
   have C := Qfv 8 n W HS.out (by omega)
   (with_reducible refine C.mono ?_)
   clear C
   rintro e w2 ⟨rfl, oD, cD, hS, hK⟩
   have HS2 := Lib.hid hS
   have bI2 := hK.keep BI.out (by omega) (fun e => by have := HgB.out gi e; omega)
   have HK := Lib.hid (HKW.out.trans hK)
   have i1 : w2.cell? ⟨gi, 1, none⟩ = some (.int .i64 a) := by rw [bI2.cell]; rfl
   have i2 : w2.cell? ⟨gi, 2, none⟩ = some (.int .i64 b) := by rw [bI2.cell]; rfl
   have hL : (code ++ numC 8 n).length = code.length + 17 := by rw [List.length_append, hnl]
   clear hS hK bI2 i0 i3 i4 hf
   go_wp2_with fail
   have C := Q3k 21 a b 8 0 w2 HS2.out (by rw [hL]; omega)
   (with_reducible refine C.mono ?_)
   clear C
   rintro e w3 ⟨rfl, oE, cE, hS, hK⟩
   have HS3 := Lib.hid hS
   have HK3 := Lib.hid (HK.out.trans hK)
   clear hS hK
   go_wp2
   try refine bodyPost_end (results_none rfl _ _ _) rfl ?_
   rw [Hn.out]
   have h' := HS3.out
   have k' := HK3.out
   rw [List.append_assoc] at h' k'
   exact ⟨rfl, oE, cE, h', k'⟩
  ·have Hn : Hid (insC ⟨op, a, b, c, n⟩ = [⟨op, a, b, c, n⟩]) := Lib.hid (by unfold insC; simp only; rw [if_neg h1, if_neg h10])
   have hq : ((op == (10 : Int)) = false) ∨ ((op == (10 : Int)) = true ∧ Q1h n = true) := by
    by_cases h : op = 10
    ·right
     refine ⟨by simp [h], ?_⟩
     cases hf : Q1h n
     ·exact absurd ⟨h, hf⟩ h10
     ·rfl
    ·left; simp [h]
   clear h1 h10
   rcases hq with hq | ⟨hq, hf⟩
   ·go_upto_region 1 with fail
    obtain ⟨-, d1⟩ := HS.out.cells
    have hgol := HS.out.box.lt
    have k1 : ∀ Wx, Ext W Wx → Wx.cell? ⟨go, 1, none⟩ = some (.slice oC code.length cC) := fun _ h => h.kept d1.1
    have q0 : ∀ Wx, Ext W Wx → Wx.cell? ⟨gi, 0, none⟩ = some (.int .i64 op) := fun _ h => h.kept i0
    have q1 : ∀ Wx, Ext W Wx → Wx.cell? ⟨gi, 1, none⟩ = some (.int .i64 a) := fun _ h => h.kept i1
    have q2 : ∀ Wx, Ext W Wx → Wx.cell? ⟨gi, 2, none⟩ = some (.int .i64 b) := fun _ h => h.kept i2
    have q3 : ∀ Wx, Ext W Wx → Wx.cell? ⟨gi, 3, none⟩ = some (.int .i64 c) := fun _ h => h.kept i3
    have q4 : ∀ Wx, Ext W Wx → Wx.cell? ⟨gi, 4, none⟩ = some (.int .i64 n) := fun _ h => h.kept i4
    clear d1 i0 i1 i2 i3 i4
    refine Q2y [7, 8, 9, 10, 11, 12] 1 (by kernel_rfl) (by kernel_rfl) ?_
    repeat (first | (refine Q3i ?_ ?_; (decide)) | (refine Q3f ?_ ?_ ?_; (decide); (first | rfl | (focus (go_simp; done))); apply Exists.intro; refine ⟨fun wc hE => ?_, ?_⟩; (go_simp; exact rfl); go_simp) | (refine Q3g ?_ ?_ ?_; (decide); (focus (go_simp; done)); go_simp))
    refine Q3h ?_
    intro w3 hx
    have HS3 := Lib.hid (HS.out.extend hx)
    have HK3 : Hid (Q4x w w3 go (.slice oC code.length cC) (.slice oC code.length cC)) := Lib.hid (HKW.out.trans ⟨fun hb _ _ => hb.ext hx, fun _ e => .inl e, hx.size⟩)
    have HX := Lib.hid hx
    have hBs := HS3.out.size
    clear k1 q0 q1 q2 q3 q4 hx
    refine Q2b rfl ?_
    go_wp2
    refine ⟨HX.out.alloc _, ?_⟩
    refine Q2u (Q1d rfl (Q1d rfl (Q1d rfl (Q1d rfl (Q1d rfl (Q36)))))) ?_
    refine Q2h _ rfl _ _ 23 rfl B 70 j0 _ 5 40 Try.underlying23 hj0 hy0 hy1 hy2 rfl (by decide) _ _ _ rfl (Q3d HS3.out.cd) (some ⟨w3.heap.size, 0, none⟩) 1 1 (Q1m ⟨op, a, b, c, n⟩) rfl ?c1 ?c3 ?c4 ?c5 ?_
    case c1 => exact Q41 (size := 5) (Blk.new w3 70 #[.int .i64 op, .int .i64 a, .int .i64 b, .int .i64 c, .int .i64 n]) rfl (by simp [Value.oneCell'])
    case c3 => unfold maxLen; omega
    case c4 => omega
    case c5 => simp; omega
    intro vC' w7 hown hgrow hat2
    obtain ⟨oC2, cC2, rfl⟩ := Q13 hown
    have hxa := (Ext.refl w3).alloc (.cells #[.int .i64 op, .int .i64 a, .int .i64 b, .int .i64 c, .int .i64 n] 70)
    have HSa := HS3.out.extend hxa
    have hgrow : (w3.alloc (.cells #[.int .i64 op, .int .i64 a, .int .i64 b, .int .i64 c, .int .i64 n] 70)).grownBy w7 (Value.slice oC code.length cC).ownBlock := hgrow
    have hlen : (code ++ ([⟨op, a, b, c, n⟩] : List LIns)).length = code.length + 1 := by simp
    have HS7 : Hid (LSt w0 (w7.setCell ⟨go, 1, none⟩ (.slice oC2 (code.length + 1) cC2)) B go vR (.slice oC2 (code.length + 1) cC2) vP (code ++ [⟨op, a, b, c, n⟩]) places) := Lib.hid (HSa.code_ hgrow (by rw [hlen, List.flatMap_append]; simpa using hown))
    have hb7 := HSa.box.grown hgrow (Q09 HSa.cd HSa.box (by decide))
    have p1 : w7.cell? ⟨go, 1, none⟩ = some (.slice oC code.length cC) ∧ w7.frozen? ⟨go, 1, none⟩ = false := ⟨by rw [hb7.cell]; rfl, hb7.frozen _⟩
    have hgo7 := hb7.lt
    have Hlen := Lib.hid hlen
    have HK : Hid (Q4x w3 (w7.setCell ⟨go, 1, none⟩ (.slice oC2 (code.length + 1) cC2)) go (.slice oC code.length cC) (.slice oC2 (code.length + 1) cC2)) := Lib.hid ⟨fun hb h1 h2 => ((hb.ext hxa).grown hgrow (fun e => h2 e.symm)).far (p := ⟨go, 1, none⟩) h1 _, fun k hk => by
     rcases hat2 with e | e
     ·left
      rw [e] at hk
      exact hk
     ·right
      have e2 : (Value.slice oC2 (code.length + 1) cC2).ownBlock = some k := hk
      rw [e] at e2
      simp only [Option.some.injEq, World.size_alloc] at e2
      omega, by
     have h1 := hgrow.size
     rw [World.size_alloc] at h1
     rw [Q2w]
     omega⟩
    clear hown hgrow hxa HSa hb7 hlen hat2
    go_wp2
    try refine bodyPost_end (results_none rfl _ _ _) rfl ?_
    rw [Hn.out]
    exact ⟨rfl, oC2, cC2, by rw [Hlen.out]; exact HS7.out, by rw [Hlen.out]; exact HK3.out.trans HK.out⟩
   ·go_wp2_with fail
    (with_reducible refine (Q9b n W).mono ?_)
    rintro e w1 ⟨rfl, rfl⟩
    rw [hf]
    clear hf
    go_upto_region 1 with fail
    obtain ⟨-, d1⟩ := HS.out.cells
    have hgol := HS.out.box.lt
    have k1 : ∀ Wx, Ext W Wx → Wx.cell? ⟨go, 1, none⟩ = some (.slice oC code.length cC) := fun _ h => h.kept d1.1
    have q0 : ∀ Wx, Ext W Wx → Wx.cell? ⟨gi, 0, none⟩ = some (.int .i64 op) := fun _ h => h.kept i0
    have q1 : ∀ Wx, Ext W Wx → Wx.cell? ⟨gi, 1, none⟩ = some (.int .i64 a) := fun _ h => h.kept i1
    have q2 : ∀ Wx, Ext W Wx → Wx.cell? ⟨gi, 2, none⟩ = some (.int .i64 b) := fun _ h => h.kept i2
    have q3 : ∀ Wx, Ext W Wx → Wx.cell? ⟨gi, 3, none⟩ = some (.int .i64 c) := fun _ h => h.kept i3
    have q4 : ∀ Wx, Ext W Wx → Wx.cell? ⟨gi, 4, none⟩ = some (.int .i64 n) := fun _ h => h.kept i4
    clear d1 i0 i1 i2 i3 i4
    refine Q2y [7, 8, 9, 10, 11, 12] 1 (by kernel_rfl) (by kernel_rfl) ?_
    repeat (first | (refine Q3i ?_ ?_; (decide)) | (refine Q3f ?_ ?_ ?_; (decide); (first | rfl | (focus (go_simp; done))); apply Exists.intro; refine ⟨fun wc hE => ?_, ?_⟩; (go_simp; exact rfl); go_simp) | (refine Q3g ?_ ?_ ?_; (decide); (focus (go_simp; done)); go_simp))
    refine Q3h ?_
    intro w3 hx
    have HS3 := Lib.hid (HS.out.extend hx)
    have HK3 : Hid (Q4x w w3 go (.slice oC code.length cC) (.slice oC code.length cC)) := Lib.hid (HKW.out.trans ⟨fun hb _ _ => hb.ext hx, fun _ e => .inl e, hx.size⟩)
    have HX := Lib.hid hx
    have hBs := HS3.out.size
    clear k1 q0 q1 q2 q3 q4 hx
    refine Q2b rfl ?_
    go_wp2
    refine ⟨HX.out.alloc _, ?_⟩
    refine Q2u (Q1d rfl (Q1d rfl (Q1d rfl (Q1d rfl (Q1d rfl (Q36)))))) ?_
    refine Q2h _ rfl _ _ 23 rfl B 70 j0 _ 5 40 Try.underlying23 hj0 hy0 hy1 hy2 rfl (by decide) _ _ _ rfl (Q3d HS3.out.cd) (some ⟨w3.heap.size, 0, none⟩) 1 1 (Q1m ⟨op, a, b, c, n⟩) rfl ?c1 ?c3 ?c4 ?c5 ?_
    case c1 => exact Q41 (size := 5) (Blk.new w3 70 #[.int .i64 op, .int .i64 a, .int .i64 b, .int .i64 c, .int .i64 n]) rfl (by simp [Value.oneCell'])
    case c3 => unfold maxLen; omega
    case c4 => omega
    case c5 => simp; omega
    intro vC' w7 hown hgrow hat2
    obtain ⟨oC2, cC2, rfl⟩ := Q13 hown
    have hxa := (Ext.refl w3).alloc (.cells #[.int .i64 op, .int .i64 a, .int .i64 b, .int .i64 c, .int .i64 n] 70)
    have HSa := HS3.out.extend hxa
    have hgrow : (w3.alloc (.cells #[.int .i64 op, .int .i64 a, .int .i64 b, .int .i64 c, .int .i64 n] 70)).grownBy w7 (Value.slice oC code.length cC).ownBlock := hgrow
    have hlen : (code ++ ([⟨op, a, b, c, n⟩] : List LIns)).length = code.length + 1 := by simp
    have HS7 : Hid (LSt w0 (w7.setCell ⟨go, 1, none⟩ (.slice oC2 (code.length + 1) cC2)) B go vR (.slice oC2 (code.length + 1) cC2) vP (code ++ [⟨op, a, b, c, n⟩]) places) := Lib.hid (HSa.code_ hgrow (by rw [hlen, List.flatMap_append]; simpa using hown))
    have hb7 := HSa.box.grown hgrow (Q09 HSa.cd HSa.box (by decide))
    have p1 : w7.cell? ⟨go, 1, none⟩ = some (.slice oC code.length cC) ∧ w7.frozen? ⟨go, 1, none⟩ = false := ⟨by rw [hb7.cell]; rfl, hb7.frozen _⟩
    have hgo7 := hb7.lt
    have Hlen := Lib.hid hlen
    have HK : Hid (Q4x w3 (w7.setCell ⟨go, 1, none⟩ (.slice oC2 (code.length + 1) cC2)) go (.slice oC code.length cC) (.slice oC2 (code.length + 1) cC2)) := Lib.hid ⟨fun hb h1 h2 => ((hb.ext hxa).grown hgrow (fun e => h2 e.symm)).far (p := ⟨go, 1, none⟩) h1 _, fun k hk => by
     rcases hat2 with e | e
     ·left
      rw [e] at hk
      exact hk
     ·right
      have e2 : (Value.slice oC2 (code.length + 1) cC2).ownBlock = some k := hk
      rw [e] at e2
      simp only [Option.some.injEq, World.size_alloc] at e2
      omega, by
     have h1 := hgrow.size
     rw [World.size_alloc] at h1
     rw [Q2w]
     omega⟩
    clear hown hgrow hxa HSa hb7 hlen hat2
    go_wp2
    try refine bodyPost_end (results_none rfl _ _ _) rfl ?_
    rw [Hn.out]
    exact ⟨rfl, oC2, cC2, by rw [Hlen.out]; exact HS7.out, by rw [Hlen.out]; exact HK3.out.trans HK.out⟩
theorem Qfs {p : Q01} (hm : Q1x p = true) (hn : ∀ i ∈ p.code, R64 i.n) : putW (Q0f p) = ((Q0f p).code.map Q2m, 0, 0) := by
 have h1 := Q7r hm hn
 have h2 := Qfm (l := (Q0f p).code) 0 (fun i hi => (Qbw hm hn i hi).2)
 unfold putW
 rw [h1, h2]
 rfl
theorem Qq9 (p : Q01) {k : Nat} (hk : k < (Q06 p).code.length) : ((Q06 p).code.take (k + 1)).flatMap insC = ((Q06 p).code.take k).flatMap insC ++ insC ((Q06 p).code.getD k default) := by
 rw [List.take_succ_eq_append_getElem hk, List.flatMap_append]
 simp [hk]
theorem Qn4 (p : Q01) (k : Nat) : (List.range (k + 1)).map (fun k => ((Q0t p k : Nat) : Int)) = (List.range k).map (fun k => ((Q0t p k : Nat) : Int)) ++ [((Q0t p k : Nat) : Int)] := by
 rw [List.range_succ, List.map_append]
 rfl
theorem Qej (p : Q01) (k : Nat) : ((((Q06 p).code.take k).flatMap insC)).length ≤ 18 * (Q06 p).code.length := by
 have h1 := Q6j insC 18 ((Q06 p).code.take k) (fun x _ => Q5e x)
 have h2 : ((Q06 p).code.take k).length ≤ (Q06 p).code.length := by simp; omega
 omega
theorem Qlo {p : Q01} (hm : Q1x p = true) : ∀ i ∈ (Q06 p).code.flatMap insC, i.op = 7 ∨ i.op = 8 → 0 ≤ i.n ∧ i.n.toNat < (Q06 p).code.length := by
 intro i hi h
 obtain ⟨j, hj, hij⟩ := List.mem_flatMap.1 hi
 have hh := (Q5g (Qco hm)).2.2.2 j hj
 have key : i = j := by
  unfold insC at hij
  split at hij
  ·exfalso
   unfold numC at hij
   split at hij
   ·simp at hij; rw [hij] at h; simp at h
   ·simp only [List.mem_cons, List.mem_append, Q58, List.not_mem_nil, or_false] at hij
    rcases hij with rfl | ((((rfl | rfl | rfl | rfl) | (rfl | rfl | rfl | rfl)) | (rfl | rfl | rfl | rfl)) | (rfl | rfl | rfl | rfl)) <;> simp at h
  ·split at hij
   ·exfalso
    rename_i h10
    simp only [List.mem_append, List.mem_singleton] at hij
    rcases hij with hij | rfl
    ·unfold numC at hij
     rw [if_neg (by simp [h10.2])] at hij
     simp only [List.mem_cons, List.mem_append, Q58, List.not_mem_nil, or_false] at hij
     rcases hij with rfl | ((((rfl | rfl | rfl | rfl) | (rfl | rfl | rfl | rfl)) | (rfl | rfl | rfl | rfl)) | (rfl | rfl | rfl | rfl)) <;> simp at h
    ·simp at h
   ·simpa using hij
 subst key
 obtain ⟨op, a, b, c, n⟩ := i
 simp only at h
 rcases h with rfl | rfl <;> (unfold Q00 at hh; simp [okIn] at hh; simp only; omega)
theorem Qon {p : Q01} (hm : Q1x p = true) (hn : ∀ i ∈ p.code, R64 i.n) : ∀ i ∈ (Q0f p).code, i.fits := by
 intro i hi
 obtain ⟨h1, h2⟩ := Qbw hm hn i hi
 have hr : (Q0f p).regs.length ≤ 6 := Q2x (Q3x hm).1
 obtain ⟨⟨a1, a2⟩, ⟨a3, a4⟩, ⟨a5, a6⟩, a7, a8⟩ := Qa5 hr h1
 simp only [Q1h, Bool.and_eq_true, decide_eq_true_eq] at h2
 exact ⟨⟨by omega, by omega⟩, ⟨by omega, by omega⟩, ⟨by omega, by omega⟩, ⟨by omega, by omega⟩, ⟨by omega, by omega⟩⟩
theorem Qih {w : World} {v : Value} {l : List Int} {g : Nat} {T : TypeId} {a b : Int} {x y : Value} (h : Q4r w v l) (hb : Blk w g T #[.int .i64 a, .int .i64 b]) : Q4r ((w.setCell ⟨g, 0, none⟩ x).setCell ⟨g, 1, none⟩ y) v l := by
 obtain ⟨h0, oa, cap, bb, o, h1, h2, h3, h4⟩ := h
 have key : ∀ i, i < l.length → bb ≠ g := by
  intro i hi e
  have hc := h4.cell i 0 hi (by omega)
  subst e
  rw [hb.cell] at hc
  generalize o + i * 1 + 0 = k at hc
  match k, hc with
  | 0, hc => simp at hc
  | 1, hc => simp at hc
  | k + 2, hc => simp at hc
 refine ⟨h0, oa, cap, bb, o, h1, h2, h3, ⟨h4.at_, fun i j hi hj => ?_⟩⟩
 have hk := key i hi
 rw [World.cell?_setCell_other _ _ _ _ (by intro e; simp only [Addr.mk.injEq] at e; omega), World.cell?_setCell_other _ _ _ _ (by intro e; simp only [Addr.mk.injEq] at e; omega)]
 exact h4.cell i j hi hj
def Qse (p : Q01) (w : World) (e : Ending) (w' : World) : Prop :=
 ∃ (u : Value) (F : Int × Nat), e = .returned (.tuple #[u, .agg #[.int .i64 F.1, .int .i64 (F.2 : Int)]]) ∧ Ext w w' ∧ (Q1x p = true → ∃ T, Q59 p T ∧ F = Q1u p T) ∧ (Q1x p = false → F = (2, 0)) ∧ (F.1 = 0 → Q1x p = true ∧ Q4r w' u ((Q0f p).code.map Q2m)) ∧ (F.1 ≠ 0 → u = .slice none 0 0)
set_option maxRecDepth 100000 in
set_option maxHeartbeats 8000000 in
theorem Qok (p : Q01) (v : Value) (w : World) (hp : Q07 w v p) : Calls Try.prog 44 #[v] w (Qse p w) := by
 have HP := Lib.hid hp
 obtain ⟨oa, capa, oc, capc, rfl⟩ : ∃ a b c d, v = .agg #[.slice a p.regs.length b, .slice c p.code.length d] := by
  obtain ⟨v1, v2, rfl, ⟨-, oa, cap, b, o, rfl, -⟩, ⟨-, ob, capb, b2, o2, rfl, -⟩⟩ := hp
  exact ⟨_, _, _, _, rfl⟩
 obtain ⟨k0, hk0, hx0, hx1, hx2⟩ := info_parts Qcg
 clear hp
 go_enter Try.func44, Try.ntmps44
 go_upto_region 1 with fail
 obtain ⟨W, g, hg, hW, hx, bP, bF⟩ := Q0i w #[.slice oa p.regs.length capa, .slice oc p.code.length capc] #[.int .i64 0, .int .i64 0] 25 28
 rw [hW, hg]
 have X := Lib.hid hx
 have Hg := Lib.hid hg
 have BF := Lib.hid bF
 have p0 : W.cell? ⟨g, 0, none⟩ = some (.slice oa p.regs.length capa) := by rw [bP.cell]; rfl
 have p1 : W.cell? ⟨g, 1, none⟩ = some (.slice oc p.code.length capc) := by rw [bP.cell]; rfl
 clear hW hg hx bP bF
 go_wp2_with fail
 have C := Qqr p _ W (HP.out.ext X.out)
 (with_reducible refine C.mono ?_)
 clear C
 rintro e w1 ⟨u, F, rfl, hx, h1, h2, h3, h4⟩
 have X1 := Lib.hid hx
 have H1 := Lib.hid h1
 have H2 := Lib.hid h2
 clear hx h1 h2 p0 p1
 by_cases hF : F.1 = 0
 ·have hq : (F.1 != (0 : Int)) = false := by simp [hF]
  obtain ⟨hmay, hU⟩ := h3 hF
  obtain ⟨hr, hc1, hcl, hins⟩ := Q3x hmay
  have hhl : (Q06 p).code.length ≤ 600 := by have := Qcp p; omega
  have hh1 : 0 < (Q06 p).code.length := by have := Q7m (p := p) (k := 0) (by omega); omega
  have hn64 : ∀ i ∈ p.code, R64 i.n := by
   obtain ⟨v1, v2, hv, -, hC⟩ := HP.out
   intro i hi
   exact (hC.1 i hi).2.2.2.2
  have Hn64 := Lib.hid hn64
  have Hmay := Lib.hid hmay
  have HF := Lib.hid hF
  have HU := Lib.hid hU
  obtain ⟨b1, b2, b3, b4, rfl, hRu, hCu⟩ := Q8l hU
  obtain ⟨hfi, oc', capc', bc, oo, hv2, hcc1, hcc2, hrow⟩ := hCu
  simp only [Value.slice.injEq, true_and] at hv2
  obtain ⟨rfl, rfl⟩ := hv2
  have HCW := Lib.hid hrow
  have HRu := Lib.hid hRu
  have hixc := Q1b (cap := b4) hrow.at_
  have Hfi := Lib.hid hfi
  clear hrow hRu hfi hr hins hmay hF hU h3 h4 hcc1 hcc2 hn64
  go_upto_region 2 with fail
  obtain ⟨w2, gh, hgh, hW, hx, bH, bT⟩ := Q0i w1 #[.slice b1 (Q06 p).regs.length b2, .slice b3 (Q06 p).code.length b4] #[.int .i64 F.1, .int .i64 (F.2 : Int)] 25 28
  rw [hW, hgh]
  have X2 := Lib.hid (X1.out.trans hx)
  have BH := Lib.hid bH
  have HCW := Lib.hid (HCW.out.ext hx)
  have HRu := Lib.hid (HRu.out.ext hx)
  have t0 : w2.cell? ⟨gh + 1, 0, none⟩ = some (.int .i64 F.1) := by rw [bT.cell]; rfl
  have h0 : w2.cell? ⟨gh, 0, none⟩ = some (.slice b1 (Q06 p).regs.length b2) := by rw [bH.cell]; rfl
  clear hW hgh hx bH bT
  go_upto_region 5 with fail
  obtain ⟨w4, go, hg4, hW, hx, bO⟩ := Q14 w2 #[.slice b1 (Q06 p).regs.length b2, .slice none 0 0] 123
  rw [hW, hg4]
  have HS : Hid (LSt w2 w4 w2.heap.size go (.slice b1 (Q06 p).regs.length b2) (.slice none 0 0) (.slice none 0 0) [] []) := Lib.hid ⟨bO, World.ownsRow_nil _ _ _ _, World.ownsRow_nil _ _ _ _, hx, by omega, Nat.le_refl _⟩
  have h1 : w4.cell? ⟨gh, 1, none⟩ = some (.slice b3 (Q06 p).code.length b4) := hx.kept (by rw [BH.out.cell]; rfl)
  clear hW hg4 hx bO t0 h0
  go_wp2_with fail
  go_loopw [7, 29] (fun vP i wr => ∃ (k : Nat) (vC : Value), i = .int .i64 (k : Int) ∧ k ≤ (Q06 p).code.length ∧ LSt w2 wr w2.heap.size go (.slice b1 (Q06 p).regs.length b2) vC vP (((Q06 p).code.take k).flatMap insC) ((List.range k).map fun k => ((Q0t p k : Nat) : Int))) (fun _ i _ => (Q06 p).code.length - (intOf i).toNat)
  case atStart => exact ⟨0, _, rfl, by omega, by simpa using HS.out⟩
  case round =>
   obtain ⟨k, vC, rfl, hk, hS⟩ := hrel
   obtain ⟨op, cp, rfl⟩ := Q13 hS.pl
   obtain ⟨oC, cC, rfl⟩ := Q13 hS.cd
   have hrawl := Qej p k
   have hpll : ((List.range k).map fun k => ((Q0t p k : Nat) : Int)).length = k := by simp
   rw [hpll] at hS
   have HS := Lib.hid hS
   rw [hpll]
   by_cases hlt : k < (Q06 p).code.length
   ·obtain ⟨e0, e1, e2, e3, e4⟩ := (HCW.out.ext hS.ext).ins k hlt
    have Hraw := Lib.hid (Qq9 p hlt)
    have Hpls := Lib.hid (Qn4 p k)
    have Hpk : Hid ((((Q06 p).code.take k).flatMap insC).length = Q0t p k) := Lib.hid rfl
    generalize (Q06 p).code.getD k default = I at *
    obtain ⟨op', a, b, c, n⟩ := I
    simp only at e0 e1 e2 e3 e4
    have hbl := Q0a e0
    simp only at hbl
    clear hS
    generalize ((Q06 p).code.take k).flatMap insC = code at *
    generalize ((List.range k).map fun k => ((Q0t p k : Nat) : Int)) = pls at *
    go_upto_region 9 with fail
    obtain ⟨w5, gi, hgi, hW, hx, bI⟩ := Q14 wr #[.int .i64 op', .int .i64 a, .int .i64 b, .int .i64 c, .int .i64 n] 70
    rw [hW, hgi]
    have HS5 := Lib.hid (HS.out.extend hx)
    have BI := Lib.hid bI
    have hBs := HS5.out.size
    obtain ⟨-, d1⟩ := HS5.out.cells
    clear hW hgi hx bI e0 e1 e2 e3 e4 hbl
    go_wp2_with (at_builtin; refine Q2h _ rfl _ _ 51 rfl w2.heap.size 3 k0 _ 1 8 Try.underlying51 hk0 hx0 hx1 hx2 rfl (by decide) _ _ _ rfl (Q3d HS5.out.pl) (some ⟨w5.heap.size, 0, none⟩) 1 1 [.int .i64 (code.length : Int)] rfl ?c1 ?c3 ?c4 ?c5 ?_)
    case c1 => exact Q41 (size := 1) (Blk.new w5 3 #[.int .i64 (code.length : Int)]) rfl (by simp [Value.oneCell'])
    case c3 => unfold maxLen; omega
    case c4 => omega
    case c5 => simp; omega
    intro vP' w6 hown hgrow hat2
    clear hat2
    obtain ⟨op2, cp2, rfl⟩ := Q13 hown
    have hxa := (Ext.refl w5).alloc (.cells #[.int .i64 (code.length : Int)] 3)
    have HSa := HS5.out.extend hxa
    have hgrow : (w5.alloc (.cells #[.int .i64 (code.length : Int)] 3)).grownBy w6 (Value.slice op k cp).ownBlock := hgrow
    have HS6 := Lib.hid (HSa.place (ps := pls ++ [((Q0t p k : Nat) : Int)]) hgrow (by rw [← Hpk.out]; simpa [hpll] using hown))
    have bI6 := (BI.out.ext hxa).grown hgrow (Q09 HSa.pl (BI.out.ext hxa) (by decide))
    have i0' : w6.cell? ⟨gi, 0, none⟩ = some (.int .i64 op') := by rw [bI6.cell]; rfl
    have i1' : w6.cell? ⟨gi, 1, none⟩ = some (.int .i64 a) := by rw [bI6.cell]; rfl
    have i2' : w6.cell? ⟨gi, 2, none⟩ = some (.int .i64 b) := by rw [bI6.cell]; rfl
    have i3' : w6.cell? ⟨gi, 3, none⟩ = some (.int .i64 c) := by rw [bI6.cell]; rfl
    have i4' : w6.cell? ⟨gi, 4, none⟩ = some (.int .i64 n) := by rw [bI6.cell]; rfl
    clear hown hgrow hxa HSa bI6 d1
    go_wp2_with fail
    have C := Qop op' a b c n w6 HS6.out (by omega)
    (with_reducible refine C.mono ?_)
    clear C
    rintro er w7 ⟨rfl, oD, cD, hS7, -⟩
    have HS7 := Lib.hid hS7
    clear hS7 i0' i1' i2' i3' i4'
    go_wp2
    go_roundw
    case rel => exact ⟨k + 1, _, by go_num, by omega, by rw [Hraw.out, Hpls.out]; exact HS7.out⟩
    case measure => first | (simp [intOf]; done) | (simp [intOf]; omega)
   ·have hje : k = (Q06 p).code.length := by omega
    subst hje
    have hlt2 : decide (((Q06 p).code.length : Int) < ((Q06 p).code.length : Int)) = false := by simp
    rw [List.take_length] at hS
    generalize hraw : (Q06 p).code.flatMap insC = raw at *
    have hL1 : 0 < raw.length := by
     have := Qbn (p := p) (q := 0) hh1
     unfold Q0f at this
     rw [hraw] at this
     simpa using Nat.lt_of_le_of_lt (Nat.zero_le _) this
    have hL2 : raw.length ≤ 10800 := by
     have := Qej p (Q06 p).code.length
     rw [List.take_length, hraw] at this
     omega
    obtain ⟨kc, cC', hv, hkB, hcap1, hcap2, -⟩ := Q9t hS.cd rfl hL1
    simp only [Value.slice.injEq, true_and] at hv
    obtain ⟨rfl, rfl⟩ := hv
    obtain ⟨kp, cp', hv, -, -⟩ := Q95 hS.pl (by simp; omega)
    simp only [List.length_map, List.length_range, Value.slice.injEq, true_and] at hv
    obtain ⟨rfl, rfl⟩ := hv
    have hixk := Q1b (n := raw.length) (cap := cC) (b := kc) (o := 0) (fun _ => rfl)
    simp only [Nat.zero_add] at hixk
    have hixp := fun W => Qcw kp (Q06 p).code.length cp W
    have Hjump := Lib.hid (by have := Qlo Hmay.out; rw [hraw] at this; exact this)
    obtain ⟨d0, d1⟩ := hS.cells
    have hgol := hS.box.lt
    have hR0 : LSt w2 wr w2.heap.size go (.slice b1 (Q06 p).regs.length b2) (.slice (some ⟨kc, 0, none⟩) raw.length cC) (.slice (some ⟨kp, 0, none⟩) (Q06 p).code.length cp) (relK (Q0t p) raw 0) ((List.range (Q06 p).code.length).map fun k => ((Q0t p k : Nat) : Int)) := by rw [Qeb]; exact hS
    have HR0 := Lib.hid hR0
    have Hraw := Lib.hid hraw
    clear hS hR0 hraw
    go_wp2_with fail
    go_loopw [52] (fun i wr => ∃ k : Nat, i = .int .i64 (k : Int) ∧ k ≤ raw.length ∧ LSt w2 wr w2.heap.size go (.slice b1 (Q06 p).regs.length b2) (.slice (some ⟨kc, 0, none⟩) raw.length cC) (.slice (some ⟨kp, 0, none⟩) (Q06 p).code.length cp) (relK (Q0t p) raw k) ((List.range (Q06 p).code.length).map fun k => ((Q0t p k : Nat) : Int))) (fun i _ => raw.length - (intOf i).toNat)
    case atStart => exact ⟨0, rfl, by omega, HR0.out⟩
    case round =>
     obtain ⟨k, rfl, hk, hS⟩ := hrel
     have HS := Lib.hid hS
     obtain ⟨d0, d1⟩ := hS.cells
     have hgol := hS.box.lt
     by_cases hlt : k < raw.length
     ·obtain ⟨kc', cC', hv, -, -, -, hcs⟩ := Q9t hS.cd rfl (by rw [Q6c]; exact hL1)
      rw [Q6c] at hv
      simp only [Value.slice.injEq, Option.some.injEq, Addr.mk.injEq, and_true, true_and] at hv
      obtain ⟨rfl, rfl⟩ := hv
      obtain ⟨s0, s4⟩ := hcs k (by rw [Q6c]; exact hlt)
      rw [Q8i _ _ hlt] at s0 s4
      have Hsame := Lib.hid fun h => Qec (Q0t p) raw hlt h
      have Hsucc := Lib.hid (Qb8 (Q0t p) raw hlt)
      have Hj := Lib.hid (Hjump.out _ (Q20 hlt))
      have hkcl := Q0a s0.1
      simp only at hkcl
      have Hget := Lib.hid (Q8i (Q0t p) raw hlt)
      have HkL := Lib.hid (show k < (relK (Q0t p) raw k).length by rw [Q6c]; exact hlt)
      clear hcs hS
      generalize raw.getD k default = I at *
      by_cases h78 : I.op = 7 ∨ I.op = 8
      ·obtain ⟨hn0, hn1⟩ := Hj.out h78
       obtain ⟨kp', cp', hv, -, hpc⟩ := Q95 HS.out.pl (by simp; omega)
       simp only [List.length_map, List.length_range, Value.slice.injEq, Option.some.injEq, Addr.mk.injEq, and_true, true_and] at hv
       obtain ⟨rfl, rfl⟩ := hv
       obtain ⟨q0, -⟩ := hpc I.n.toNat (.int .i64 ((Q0t p I.n.toNat : Nat) : Int)) (by simp; omega) (by simp [hn1])
       have hq7 : (I.op == (7 : Int)) = true ∨ ((I.op == (7 : Int)) = false ∧ (I.op == (8 : Int)) = true) := by
        rcases h78 with h | h
        ·left; simp [h]
        ·right; simp [h]
       have Hnext : Hid (relK (Q0t p) raw (k + 1) = (relK (Q0t p) raw k).set k { (relK (Q0t p) raw k).getD k default with n := ((Q0t p I.n.toNat : Nat) : Int) }) := Lib.hid (by
        rw [Hsucc.out, Hget.out]
        unfold Q0x
        rw [if_pos h78])
       have hn2 : I.n < ((Q06 p).code.length : Int) := by omega
       have hkpl := Q0a q0
       simp only at hkpl
       clear hpc h78
       rcases hq7 with hq7 | ⟨hq7, hq8⟩
       ·go_wp2
        go_roundw
        case rel => exact ⟨k + 1, by go_num, by omega, by rw [Hnext.out]; exact HS.out.setN HkL.out _⟩
        case measure => first | (simp [intOf]; done) | (simp [intOf]; omega)
       ·go_wp2
        go_roundw
        case rel => exact ⟨k + 1, by go_num, by omega, by rw [Hnext.out]; exact HS.out.setN HkL.out _⟩
        case measure => first | (simp [intOf]; done) | (simp [intOf]; omega)
      ·have hq7 : (I.op == (7 : Int)) = false := by simp; omega
       have hq8 : (I.op == (8 : Int)) = false := by simp; omega
       have Hs := Lib.hid (Hsame.out h78)
       clear h78
       go_wp2
       go_roundw
       case rel => exact ⟨k + 1, by go_num, by omega, by rw [Hs.out]; exact HS.out⟩
       case measure => first | (simp [intOf]; done) | (simp [intOf]; omega)
     ·have hje : k = raw.length := by omega
      subst hje
      have hlt3 : decide ((raw.length : Int) < (raw.length : Int)) = false := by simp
      have hcode : relK (Q0t p) raw raw.length = (Q0f p).code := by rw [Qed, ← Hraw.out]; rfl
      rw [hcode] at hS
      have HPL : Hid (Q07 wr (.agg #[.slice b1 (Q06 p).regs.length b2, .slice (some ⟨kc, 0, none⟩) raw.length cC]) (Q0f p)) := Lib.hid ⟨_, _, rfl, HRu.out.ext hS.ext, Q94 hS.cd (Qon Hmay.out Hn64.out)⟩
      have hputs := Qfs Hmay.out Hn64.out
      have bF := BF.out.ext (X2.out.trans hS.ext)
      have XS := Lib.hid (X2.out.trans hS.ext)
      have BF2 := Lib.hid bF
      clear hS bF
      go_wp2_with fail
      have C := Qia (Q0f p) _ wr HPL.out
      rw [hputs] at C
      (with_reducible refine C.mono ?_)
      clear C
      rintro er w8 ⟨u8, rfl, hU8, hx⟩
      have HU8 := Lib.hid hU8
      have X8 := Lib.hid (XS.out.trans hx)
      have bF := BF2.out.ext hx
      have BF3 := Lib.hid bF
      have f0 : w8.cell? ⟨g + 1, 0, none⟩ = some (.int .i64 0) ∧ w8.frozen? ⟨g + 1, 0, none⟩ = false := ⟨by rw [bF.cell]; rfl, bF.frozen _⟩
      have f1 : w8.cell? ⟨g + 1, 1, none⟩ = some (.int .i64 0) ∧ w8.frozen? ⟨g + 1, 1, none⟩ = false := ⟨by rw [bF.cell]; rfl, bF.frozen _⟩
      have hgll := bF.lt
      clear hU8 hx bF d0 d1
      go_wp2
      have hgw : w.heap.size ≤ g + 1 := by have := Hg.out; omega
      have hF2 : F = (0, 0) := by
       have hf : F.1 = 0 := HF.out
       obtain ⟨T, hT, hF3⟩ := H1.out Hmay.out
       have := Qh5 p T
       rw [hF3] at hf ⊢
       exact this hf
      refine bodyPost_ret (Q8g (Q80 BF3.out) rfl _ rfl rfl Try.underlying28 rfl Q3e) rfl ?_
      refine ⟨_, F, by rw [hF2]; rfl, Q92 (X.out.trans X8.out) hgw, H1.out, H2.out, fun _ => ⟨Hmay.out, ?_⟩, fun h => absurd HF.out h⟩
      exact Qih HU8.out BF3.out
 ·have hq : (F.1 != (0 : Int)) = true := by simp [hF]
  have hu := h4 hF
  subst hu
  have HF := Lib.hid hF
  clear h3 h4 hF
  go_upto_region 2 with fail
  obtain ⟨w2, gh, hgh, hW, hx, bH, bT⟩ := Q0i w1 #[.slice none 0 0, .slice none 0 0] #[.int .i64 F.1, .int .i64 (F.2 : Int)] 25 28
  rw [hW, hgh]
  have X2 := Lib.hid (X1.out.trans hx)
  have hgg : g + 1 < gh + 1 := by have := (BF.out.ext X1.out).lt; omega
  have t0 : w2.cell? ⟨gh + 1, 0, none⟩ = some (.int .i64 F.1) := by rw [bT.cell]; rfl
  have t1 : w2.cell? ⟨gh + 1, 1, none⟩ = some (.int .i64 (F.2 : Int)) := by rw [bT.cell]; rfl
  have bF := BF.out.ext X2.out
  have BF2 := Lib.hid bF
  have f0 : w2.cell? ⟨g + 1, 0, none⟩ = some (.int .i64 0) ∧ w2.frozen? ⟨g + 1, 0, none⟩ = false := ⟨by rw [bF.cell]; rfl, bF.frozen _⟩
  have f1 : w2.cell? ⟨g + 1, 1, none⟩ = some (.int .i64 0) ∧ w2.frozen? ⟨g + 1, 1, none⟩ = false := ⟨by rw [bF.cell]; rfl, bF.frozen _⟩
  clear hW hgh hx bH bT bF
  go_upto_region 3 with fail
  go_region
  all_goals go_wp2
  all_goals (
   have hgw : w.heap.size ≤ g + 1 := by have := Hg.out; omega
   refine bodyPost_ret (Q8g (Q80 BF2.out).drew rfl _ rfl rfl Try.underlying28 rfl Q3e) rfl ?_
   exact ⟨_, F, rfl, (Q92 (X.out.trans X2.out) hgw).drew, H1.out, H2.out, fun h => absurd h HF.out, fun _ => rfl⟩)
theorem Qqf {oa : Option Addr} {n b o cap : Nat} (h : 0 < n → oa = some ⟨b, o, none⟩) (W : World) (i : Int) (h0 : 0 ≤ i) (h1 : i < n) :
  (Instr.indexAt 56 (.slice oa n cap) (.int .i64 i)).run Try.prog W = .ok (.pointer (some ⟨b, o + i.toNat, none⟩)) W := by
 obtain rfl := h (by omega)
 have hs : (Try.prog.info? 152).map (·.size) = some 1 := by kernel_rfl
 simp [Instr.indexAt, run_underlying Try.underlying56, asIntOf, h0, h1]
 exact Q3n b o _
theorem Q8w : (Try.prog.info? 70).map (fun i => (i.zero, i.size, i.bytes)) = some (some (.agg #[.int .i64 0, .int .i64 0, .int .i64 0, .int .i64 0, .int .i64 0]), 5, 40) := by kernel_rfl
theorem Qq3 (x : Int) (h0 : 0 ≤ x) (h1 : x < 4294967296) : (insW x).fits := by
 unfold LIns.fits insW R64
 simp only
 refine ⟨by omega, by omega, by omega, by omega, ?_⟩
 split <;> omega
theorem Qaa {w : World} {g : Nat} {T U : TypeId} {a b c d x y z u : Value} (hA : Blk w g T #[a, b]) (hB : Blk w (g + 1) U #[c, d]) :
  Blk ((((w.setCell ⟨g, 0, none⟩ x).setCell ⟨g, 1, none⟩ y).setCell ⟨g + 1, 0, none⟩ z).setCell ⟨g + 1, 1, none⟩ u) g T #[x, y] ∧ Blk ((((w.setCell ⟨g, 0, none⟩ x).setCell ⟨g, 1, none⟩ y).setCell ⟨g + 1, 0, none⟩ z).setCell ⟨g + 1, 1, none⟩ u) (g + 1) U #[z, u] :=
 ⟨(((hA.set_ 0 x).set_ 1 y).far (p := ⟨g + 1, 0, none⟩) (by simp) z).far (p := ⟨g + 1, 1, none⟩) (by simp) u, (((hB.far (p := ⟨g, 0, none⟩) (by simp) x).far (p := ⟨g, 1, none⟩) (by simp) y).set_ 0 z).set_ 1 u⟩
theorem Qcq {w w1 : World} {x y z u : Value} (h : Ext w w1) : Ext w ((((w1.setCell ⟨w.heap.size, 0, none⟩ x).setCell ⟨w.heap.size, 1, none⟩ y).setCell ⟨w.heap.size + 1, 0, none⟩ z).setCell ⟨w.heap.size + 1, 1, none⟩ u) :=
 (((h.setCell (Nat.le_refl _) _).setCell (Nat.le_refl _) _).setCell (Nat.le_succ _) _).setCell (Nat.le_succ _) _
theorem Qn9 {w : World} {g base : Nat} {T U e : TypeId} {size n : Nat} {v : Value} {xs : List Value} {A B : Array Value} {x y z u : Value} (h : w.ownsRow base e size v n xs) (hA : Blk w g T A) (hB : Blk w (g + 1) U B) (h1 : e ≠ T) (h2 : e ≠ U) :
  ((((w.setCell ⟨g, 0, none⟩ x).setCell ⟨g, 1, none⟩ y).setCell ⟨g + 1, 0, none⟩ z).setCell ⟨g + 1, 1, none⟩ u).ownsRow base e size v n xs := by
 have n1 := Q09 h hA h1
 have n2 := Q09 h hB h2
 exact Q1e (Q1e (Q1e (Q1e h n1 _) n1 _) n2 _) n2 _
def Qsf (q : Q01 × Int) (w : World) (e : Ending) (w' : World) : Prop := ∃ u, e = .returned (.tuple #[u, .agg #[.int .i64 q.2, .int .i64 0]]) ∧ Q07 w' u q.1 ∧ Ext w w'
set_option maxHeartbeats 4000000 in
theorem Qmd (r : List LReg) (ws : List Int) (v u : Value) (w : World) (hr : Q67 w v r) (hu : Q4r w u ws) (hr2 : ws.length ≤ 1048576) :
  Calls Try.prog 80 #[v, u] w (Qsf (getW r ws) w) := by
 have HR := Lib.hid hr
 obtain ⟨hb, oa, cap, b, o, rfl, hc1, hc2, hrow⟩ := hr
 obtain ⟨hb2, ob, capb, b2, o2, rfl, hd1, hd2, hrow2⟩ := hu
 have hlen2 := Q1i hd1 hd2
 have hix := Qqf (cap := capb) hrow2.at_
 have Hrow2 := Lib.hid hrow2
 obtain ⟨j0, hj0, hy0, hy1, hy2⟩ := info_parts Q8w
 clear hrow hrow2 hc1 hc2 hd1 hd2
 go_enter Try.func80, Try.ntmps80
 go_wp2_with fail
 obtain ⟨w1, k, hk, hw1, hx1, bA, bB⟩ := Q0i w #[.slice none 0 0, .slice none 0 0] #[.int .i64 0, .int .i64 0] 25 28
 rw [hw1]
 have hks : w1.heap.size = w.heap.size + 1 + 1 := by rw [← hw1]; simp
 have X1 := Lib.hid hx1
 subst hk
 clear hw1 hx1
 obtain ⟨W, g, hg, hW, hx, bP⟩ := Q14 w1 #[.slice oa r.length cap, .slice none 0 0] 25
 rw [hW]
 have HG := Lib.hid hg
 rw [hks] at hg
 rw [hg]
 have hgs : w.heap.size + 1 < g := by omega
 have X := Lib.hid hx
 clear hW hg hx hks
 go_loopw [7] (fun i wr => ∃ (j : Nat) (vc : Value), j ≤ ws.length ∧ i = .int .i64 j ∧ Blk wr g 25 #[.slice oa r.length cap, vc] ∧ wr.ownsRow (g + 1) 70 5 vc j (((ws.take j).map insW).flatMap Q1m) ∧ Ext w1 wr) (fun i _ => ws.length - (intOf i).toNat)
 case atStart => exact ⟨0, _, by omega, rfl, bP, World.ownsRow_nil _ _ _ _, X.out⟩
 case round =>
  obtain ⟨j, vc, hj, rfl, bP, hown, hE⟩ := hrel
  obtain ⟨oc, cc, rfl⟩ := Q13 hown
  have XE := Lib.hid hE
  have Hown := Lib.hid hown
  clear hE hown
  by_cases hlt : j < ws.length
  ·have e0 := ((Hrow2.out.ext X1.out).ext XE.out).one j hlt
   obtain ⟨hx0, hx1⟩ := hb2 _ (Q20 hlt)
   have Htk : Hid (ws.take (j + 1) = ws.take j ++ [ws.getD j default]) := Lib.hid (by rw [List.take_succ_eq_append_getElem hlt]; simp [hlt])
   generalize ws.getD j default = x at *
   have hgl := bP.lt
   have hgw : g + 1 ≤ wr.heap.size := hgl
   have c1 : wr.cell? ⟨g, 1, none⟩ = some (.slice oc j cc) := by rw [bP.cell]; rfl
   by_cases hn : 8192 ≤ x % 16384
   ·have Hlit : Hid (Q1m (insW x) = [.int .i64 (x / 16384 / 16 / 16 / 16), .int .i64 (x / 16384 / 16 / 16 % 16), .int .i64 (x / 16384 / 16 % 16), .int .i64 (x / 16384 % 16), .int .i64 (x % 16384 - 16384)]) := Lib.hid (by unfold Q1m insW; rw [if_pos hn])
    go_wp2_with (at_builtin; refine Q2h _ rfl _ _ 23 rfl (g + 1) 70 j0 _ 5 40 Try.underlying23 hj0 hy0 hy1 hy2 rfl (by decide) _ _ _ rfl (Q3d (Q3d Hown.out)) (some ⟨wr.heap.size + 1, 0, none⟩) 1 1 (Q1m (insW x)) rfl ?b1 ?b3 ?b4 ?b5 ?_)
    case b1 =>
     have hb := Blk.new (wr.alloc (.cells #[.int .i64 (x / 16384 / 16 / 16 / 16), .int .i64 (x / 16384 / 16 / 16 % 16), .int .i64 (x / 16384 / 16 % 16), .int .i64 (x / 16384 % 16), .int .i64 (x % 16384 - 16384)] 70)) 70 #[.int .i64 (x / 16384 / 16 / 16 / 16), .int .i64 (x / 16384 / 16 / 16 % 16), .int .i64 (x / 16384 / 16 % 16), .int .i64 (x / 16384 % 16), .int .i64 (x % 16384 - 16384)]
     simp only [World.size_alloc] at hb
     have h := Q41 (size := 5) hb rfl (by simp [Value.oneCell'])
     rw [Hlit.out]
     exact h
    case b3 => unfold maxLen; omega
    case b4 => omega
    case b5 => first | omega | (simp; omega)
    intro vc w6 hown hgrow hat
    clear hat
    obtain ⟨oc', cc', rfl⟩ := Q13 hown
    have XE := Lib.hid (((XE.out.alloc _).alloc _).grown hgrow (fun k hk => by have := Q8n Hown.out k hk; have := HG.out; omega))
    have bP := ((bP.alloc _).alloc _).grown hgrow (Q09 Hown.out (bP) (by decide))
    have p1 : w6.cell? ⟨g, 1, none⟩ = some (.slice oc j cc) ∧ w6.frozen? ⟨g, 1, none⟩ = false := ⟨by rw [bP.cell]; rfl, bP.frozen 1⟩
    have Hown : Hid (w6.ownsRow (g + 1) 70 5 (.slice oc' (j + 1) cc') (j + 1) (((ws.take (j + 1)).map insW).flatMap Q1m)) := Lib.hid (by
     rw [Htk.out]
     simpa [List.map_take] using hown)
    clear hown hgrow c1 e0
    go_wp2
    go_roundw
    case rel => exact ⟨j + 1, _, by omega, by go_num, bP.set_ 1 _, ownsRow_setCell_below Hown.out (a := ⟨g, 1, none⟩) (by simp) _, XE.out.setCell (by have := HG.out; simp; omega) _⟩
    case measure => first | (simp [intOf]; done) | (simp [intOf]; omega)
   ·have hn' : decide (8192 ≤ x % 16384) = false := by simpa using hn
    have Hlit : Hid (Q1m (insW x) = [.int .i64 (x / 16384 / 16 / 16 / 16), .int .i64 (x / 16384 / 16 / 16 % 16), .int .i64 (x / 16384 / 16 % 16), .int .i64 (x / 16384 % 16), .int .i64 (x % 16384)]) := Lib.hid (by unfold Q1m insW; rw [if_neg hn])
    go_wp2_with (at_builtin; refine Q2h _ rfl _ _ 23 rfl (g + 1) 70 j0 _ 5 40 Try.underlying23 hj0 hy0 hy1 hy2 rfl (by decide) _ _ _ rfl (Q3d (Q3d Hown.out)) (some ⟨wr.heap.size + 1, 0, none⟩) 1 1 (Q1m (insW x)) rfl ?d1 ?d3 ?d4 ?d5 ?_)
    case d1 =>
     have hb := Blk.new (wr.alloc (.cells #[.int .i64 (x / 16384 / 16 / 16 / 16), .int .i64 (x / 16384 / 16 / 16 % 16), .int .i64 (x / 16384 / 16 % 16), .int .i64 (x / 16384 % 16), .int .i64 (x % 16384)] 70)) 70 #[.int .i64 (x / 16384 / 16 / 16 / 16), .int .i64 (x / 16384 / 16 / 16 % 16), .int .i64 (x / 16384 / 16 % 16), .int .i64 (x / 16384 % 16), .int .i64 (x % 16384)]
     simp only [World.size_alloc] at hb
     have h := Q41 (size := 5) hb rfl (by simp [Value.oneCell'])
     rw [Hlit.out]
     exact h
    case d3 => unfold maxLen; omega
    case d4 => omega
    case d5 => first | omega | (simp; omega)
    intro vc w6 hown hgrow hat
    clear hat
    obtain ⟨oc', cc', rfl⟩ := Q13 hown
    have XE := Lib.hid (((XE.out.alloc _).alloc _).grown hgrow (fun k hk => by have := Q8n Hown.out k hk; have := HG.out; omega))
    have bP := ((bP.alloc _).alloc _).grown hgrow (Q09 Hown.out (bP) (by decide))
    have p1 : w6.cell? ⟨g, 1, none⟩ = some (.slice oc j cc) ∧ w6.frozen? ⟨g, 1, none⟩ = false := ⟨by rw [bP.cell]; rfl, bP.frozen 1⟩
    have Hown : Hid (w6.ownsRow (g + 1) 70 5 (.slice oc' (j + 1) cc') (j + 1) (((ws.take (j + 1)).map insW).flatMap Q1m)) := Lib.hid (by
     rw [Htk.out]
     simpa [List.map_take] using hown)
    clear hown hgrow c1 e0
    go_wp2
    go_roundw
    case rel => exact ⟨j + 1, _, by omega, by go_num, bP.set_ 1 _, ownsRow_setCell_below Hown.out (a := ⟨g, 1, none⟩) (by simp) _, XE.out.setCell (by have := HG.out; simp; omega) _⟩
    case measure => first | (simp [intOf]; done) | (simp [intOf]; omega)
  ·have hje : j = ws.length := by omega
   subst hje
   have c0 : wr.cell? ⟨g, 0, none⟩ = some (.slice oa r.length cap) := by rw [bP.cell]; rfl
   have c1 : wr.cell? ⟨g, 1, none⟩ = some (.slice oc ws.length cc) := by rw [bP.cell]; rfl
   have Hcc : Hid (wr.ownsRow (g + 1) 70 5 (.slice oc ws.length cc) (ws.map insW).length ((ws.map insW).flatMap Q1m)) := Lib.hid (by
    have h := Hown.out
    rw [List.take_length] at h
    simpa using h)
   have hfit : ∀ i ∈ ws.map insW, i.fits := by
    intro i hi
    simp only [List.mem_map] at hi
    obtain ⟨x, hx, rfl⟩ := hi
    exact Qq3 x (hb2 x hx).1 (hb2 x hx).2
   have XX := Lib.hid (X1.out.trans XE.out)
   have HP : Hid (Q07 wr (.agg #[.slice oa r.length cap, .slice oc ws.length cc]) (Q6e r ws)) := Lib.hid ⟨_, _, rfl, HR.out.ext XX.out, Q94 Hcc.out hfit⟩
   have bA := bA.ext XE.out
   have bB := bB.ext XE.out
   have Hfit := Lib.hid hfit
   clear hfit Hown XE X
   go_wp2_with fail
   have C := Qmc (Q6e r ws) _ wr HP.out
   (with_reducible refine C.mono ?_)
   clear C HP
   rintro e w2 ⟨rfl, h1⟩
   have c0 := h1.kept c0
   have c1 := h1.kept c1
   have Hcc := Lib.hid (Q34 Hcc.out h1)
   have bA := bA.ext h1
   have bB := bB.ext h1
   have XX := Lib.hid (XX.out.trans h1)
   have q0 : w2.cell? ⟨w.heap.size, 0, none⟩ = some (.slice none 0 0) ∧ w2.frozen? ⟨w.heap.size, 0, none⟩ = false := ⟨by rw [bA.cell]; rfl, bA.frozen 0⟩
   have q1 : w2.cell? ⟨w.heap.size, 1, none⟩ = some (.slice none 0 0) ∧ w2.frozen? ⟨w.heap.size, 1, none⟩ = false := ⟨by rw [bA.cell]; rfl, bA.frozen 1⟩
   have p0 : w2.cell? ⟨w.heap.size + 1, 0, none⟩ = some (.int .i64 0) ∧ w2.frozen? ⟨w.heap.size + 1, 0, none⟩ = false := ⟨by rw [bB.cell]; rfl, bB.frozen 0⟩
   have p1 : w2.cell? ⟨w.heap.size + 1, 1, none⟩ = some (.int .i64 0) ∧ w2.frozen? ⟨w.heap.size + 1, 1, none⟩ = false := ⟨by rw [bB.cell]; rfl, bB.frozen 1⟩
   clear h1
   cases hh : Q3m (Q6e r ws)
   ·have Hq : Hid (getW r ws = (⟨[], []⟩, 2)) := Lib.hid (by unfold getW; rw [hh]; rfl)
    clear hh
    go_wp2
    exact bodyPost_ret (Q9n (Qaa bA bB).1 (Qaa bA bB).2 rfl _ rfl rfl Try.underlying25 rfl (by kernel_rfl) Try.underlying28 rfl (by kernel_rfl)) rfl
     ⟨_, by rw [Hq.out], by rw [Hq.out]; exact Qmw _, Qcq XX.out⟩
   ·have Hq : Hid (getW r ws = (Q6e r ws, 0)) := Lib.hid (by unfold getW; rw [hh]; rfl)
    clear hh
    go_wp2
    exact bodyPost_ret (Q9n (Qaa bA bB).1 (Qaa bA bB).2 rfl _ rfl rfl Try.underlying25 rfl (by kernel_rfl) Try.underlying28 rfl (by kernel_rfl)) rfl
     ⟨_, by rw [Hq.out], by
      rw [Hq.out]
      refine ⟨_, _, rfl, HR.out.ext (Qcq XX.out), Q94 (Qn9 Hcc.out bA bB (by decide) (by decide)) Hfit.out⟩, Qcq XX.out⟩
end Go.Proofs.Yteiknefajlocoaa
