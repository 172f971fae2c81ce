/- Laid together from: RegW, Fam, PlayP, Play1. -/
import Derived.Test.YteiknefajlocoaaLoadQuietB28
import Derived.Test.YteiknefajlocoaaLoadQuietB10
import Derived.Test.YteiknefajlocoaaLoadQuietB17
import Derived.Test.YteiknefajlocoaaLoadQuietB5
import Derived.Test.YteiknefajlocoaaLoadQuietB13

namespace Go.Proofs.Yteiknefajlocoaa
open Go.ChangeShapes Go.WideShapes Go.ChangeAt Go.RowKit
set_option linter.unusedVariables false
set_option linter.unusedSimpArgs false
def regW (Y : Array Value) (l : List Int) : Array Value := regV l ++ Y
theorem Qlg {Y : Array Value} {l : List Int} {a : Int} (h : a.toNat < l.length) : (regW Y l)[a.toNat]? = some (.int .i64 (rg l a)) := by
 have h2 : a.toNat < (regV l).size := by rw [Qeg]; exact h
 unfold regW
 rw [Array.getElem?_append_left h2, Qli h]
theorem regW_set' (Y : Array Value) (l : List Int) (a v : Int) (h : a.toNat < l.length) : (regW Y l).setIfInBounds a.toNat (.int .i64 v) = regW Y (rset l a v) := by
 have h2 : a.toNat < (regV l).size := by rw [Qeg]; exact h
 unfold regW
 rw [← Qlh, Array.setIfInBounds_append_left h2]
theorem Q2q {Y : Array Value} {w : World} {k : Nat} {E : TypeId} {l : List Int} (h : Blk w k E (regW Y l)) (hl : l.length = 10) {a : Int} (ha : okIn 10 a = true) : w.cell? ⟨k, a.toNat, none⟩ = some (.int .i64 (rg l a)) ∧ w.frozen? ⟨k, a.toNat, none⟩ = false := by
 obtain ⟨h0, h1⟩ := Q05.1 ha
 exact ⟨by rw [h.cell, Qlg (by omega)], h.frozen _⟩
theorem Qlf {w : World} {B k cap : Nat} {E : TypeId} {l : List Int} (h : w.ownsRow B E 1 (.slice (some ⟨k, 0, none⟩) l.length cap) l.length (l.map (Value.int .i64))) : ∃ Y, Blk w k E (regW Y l) := by
 rcases h.2 with ⟨h0, -⟩ | ⟨g, c, cur, hv, h1, h2, h3, h4, h5, h6⟩
 ·cases h0
 simp only [Value.slice.injEq, Option.some.injEq, Addr.mk.injEq, and_true, true_and] at hv
 obtain ⟨rfl, rfl⟩ := hv
 refine ⟨(cur.toList.drop l.length).toArray, ?_⟩
 unfold Blk regW regV
 rw [h2, ← h6, Nat.mul_one]
 simp
theorem Qn6 {w w' : World} {B k cap : Nat} {E : TypeId} {l l' : List Int} {Y : Array Value} (h : w.ownsRow B E 1 (.slice (some ⟨k, 0, none⟩) l.length cap) l.length (l.map (Value.int .i64))) (hX : Blk w k E (regW Y l)) (hl : l'.length = l.length) (h' : Blk w' k E (regW Y l')) :
  w'.ownsRow B E 1 (.slice (some ⟨k, 0, none⟩) l'.length cap) l'.length (l'.map (Value.int .i64)) := by
 rcases h.2 with ⟨h0, -⟩ | ⟨g, c, cur, hv, h1, h2, h3, h4, h5, h6⟩
 ·cases h0
 simp only [Value.slice.injEq, Option.some.injEq, Addr.mk.injEq, and_true, true_and] at hv
 obtain ⟨rfl, rfl⟩ := hv
 have hc : cur = regW Y l := by
  unfold Blk at hX
  rw [h2] at hX
  simpa using hX
 refine ⟨by simp, .inr ⟨_, _, regW Y l', rfl, h1, h', by omega, h4, ?_, ?_⟩⟩
 ·rw [← h5, hc]
  simp [regW, regV, hl]
 ·simp [regW, regV]
theorem Qmb (k : Nat) (Y : Array Value) (cap : Nat) (l : List Int) (E : TypeId) (i : LIns) (hl : l.length = 10) (hb : okIn 10 i.b = true) (w : World) (h : Blk w k E (regW Y l)) :
  Calls Try.prog 65 #[.slice (some ⟨k, 0, none⟩) 10 cap, insV i] w fun e w' => e = .returned (.int .i64 (Q1g l i)) ∧ Ext w w' := by
 obtain ⟨rb, -⟩ := Q2q h hl hb
 obtain ⟨op, a, b, c, n⟩ := i
 simp only at hb rb
 obtain ⟨b0, b1⟩ := Q05.1 hb
 have hkl := h.lt
 unfold insV
 simp only
 clear h
 by_cases h5 : op = 5
 ·subst h5
  go_enter Try.func65, Try.ntmps65
  go_wp2
  go_ret
  exact ⟨Q3c (by simp [Q1g]), (Ext.refl _).alloc _⟩
 by_cases h6 : op = 6
 ·subst h6
  go_enter Try.func65, Try.ntmps65
  go_wp2
  go_ret
  exact ⟨Q3c (by simp [Q1g]), (Ext.refl _).alloc _⟩
 have Hv : Hid (Q1g l ⟨op, a, b, c, n⟩ = wrap64 (rg l b + n)) := Lib.hid (by unfold Q1g; rw [if_neg (by simp only; omega)])
 have e5 : (op == 5) = false := by simpa using h5
 have e6 : (op == 6) = false := by simpa using h6
 have hix := Q3l
 clear h5 h6
 go_enter Try.func65, Try.ntmps65
 go_upto_region 3 with fail
 obtain ⟨w0, e, he, hW, hs0, hx0, c0, c1, c2, c3, c4⟩ := new5 w 70 (.int .i64 op) (.int .i64 a) (.int .i64 b) (.int .i64 c) (.int .i64 n)
 rw [hW, he]
 have k0 : ∀ W, Ext w0 W → W.cell? ⟨e, 2, none⟩ = some (.int .i64 b) := fun _ h => h.kept c2
 have k1 : ∀ W, Ext w0 W → W.cell? ⟨e, 4, none⟩ = some (.int .i64 n) := fun _ h => h.kept c4
 have k2 : ∀ W, Ext w0 W → W.cell? ⟨k, b.toNat, none⟩ = some (.int .i64 (rg l b)) := fun _ h => h.kept (hx0.kept rb)
 have X := Lib.hid hx0
 clear hW he hs0 hx0 c0 c1 c2 c3 c4 rb
 refine Q0z 9 (by kernel_rfl) (by kernel_rfl) ?_
 simp only [List.take_succ_cons, List.take_zero, List.drop_succ_cons, List.drop_zero]
 repeat (first | (refine Q0r ?_ ?_ (fun wc hE => ?_) ?_; (decide); rfl; (focus (go_simp; done)); go_simp) | (refine Q0l ?_ ?_ ?_; (decide); (first | rfl | (focus (go_simp; done))); apply Exists.intro; refine ⟨fun wc hE => ?_, ?_⟩; (go_simp; exact rfl); go_simp) | (refine Q0s ?_ ?_ ?_; (decide); (first | rfl | (focus (go_simp; done))); apply Exists.intro; refine ⟨fun wc hE => ?_, ?_⟩; (go_simp; (first | fail)); go_simp) | (refine Q0p ?_ ?_ ?_; (decide); (focus (go_simp; done)); go_simp))
 refine Q0q ?_
 intro wx hx
 have X := Lib.hid (X.out.trans hx)
 clear hx k0 k1 k2
 go_wp2
 go_ret
 exact ⟨Q3c (by rw [Hv.out, IntKind.wrap_i64]; unfold wrap64; rfl), X.out⟩
def Q5h (k : Nat) (Y : Array Value) (E : TypeId) (l : List Int) (i : LIns) (w : World) (e : Ending) (w' : World) : Prop :=
 ∃ ao cap, e = .returned (.slice ao (Q2e l i).length cap) ∧ Src w' 3 ao (Q2e l i).length ((Q2e l i).flatMap Q4z) ∧ w.grownBy w' (some k) ∧ Blk w' k E (regW Y (Q1f l i))
theorem Q6v {k : Nat} {Y : Array Value} {E : TypeId} {l l' : List Int} {i : LIns} {w w1 w2 : World} (hs : Q2e l i = []) (hr : Q1f l i = l') (hg : w.grownBy w1 (some k)) (hx : Ext w1 w2) (hb : Blk w1 k E (regW Y l')) : Q5h k Y E l i w (.returned (.slice none 0 0)) w2 := by
 refine ⟨none, 0, by rw [hs]; rfl, by rw [hs]; exact Qj7 _ _, Qa9 hg (Q81 hx _), by rw [hr]; exact hb.ext hx⟩
theorem Q6u {k : Nat} {Y : Array Value} {E : TypeId} {l : List Int} {w w1 : World} {a v : Int} (hal : a.toNat < l.length) (hb : Blk w1 k E (regW Y l)) (hx : Ext w w1) : w.grownBy (w1.setCell ⟨k, a.toNat, none⟩ (.int .i64 v)) (some k) ∧ Blk (w1.setCell ⟨k, a.toNat, none⟩ (.int .i64 v)) k E (regW Y (rset l a v)) :=
 ⟨Qa9 (Q81 hx _) (Q8e _ _ _), by rw [← regW_set' Y l a v hal]; exact hb.set_ _ _⟩
set_option maxRecDepth 100000 in
set_option maxHeartbeats 2000000 in
theorem Ql4 (k : Nat) (Y : Array Value) (cap : Nat) (E : TypeId) (l : List Int) (a b c n : Int) (hl : l.length = 10) (h64 : Q1q l) (ha : okIn 10 a = true) (w : World) (h : Blk w k E (regW Y l)) :
  Calls Try.prog 67 #[.slice (some ⟨k, 0, none⟩) 10 cap, insV ⟨1, a, b, c, n⟩] w (Q5h k Y E l ⟨1, a, b, c, n⟩ w) := by
 unfold insV
 simp only
 have hkl := h.lt
 obtain ⟨ra, fa⟩ := Q2q h hl ha
 obtain ⟨a0, a1⟩ := Q05.1 ha
 have rr : w.cell? ⟨k, a.toNat, none⟩ = some (.int .i64 (rg l a)) ∧ w.frozen? ⟨k, a.toNat, none⟩ = false := ⟨ra, fa⟩
 have hix := Q3l
 go_enter Try.func67, Try.ntmps67
 go_wp2
 go_ret
 obtain ⟨h1, h2⟩ := Q6u (a := a) (v := n) (by have := Q05.1 ha; omega) h (Ext.refl w)
 first | exact Q6v (Q70 (by simp)) rfl h1 ((Ext.refl _).alloc _) h2
set_option maxRecDepth 100000 in
set_option maxHeartbeats 2000000 in
theorem Ql7 (k : Nat) (Y : Array Value) (cap : Nat) (E : TypeId) (l : List Int) (a b c n : Int) (hl : l.length = 10) (h64 : Q1q l) (ha : okIn 10 a = true) (hb : okIn 10 b = true) (w : World) (h : Blk w k E (regW Y l)) :
  Calls Try.prog 67 #[.slice (some ⟨k, 0, none⟩) 10 cap, insV ⟨2, a, b, c, n⟩] w (Q5h k Y E l ⟨2, a, b, c, n⟩ w) := by
 unfold insV
 simp only
 have hkl := h.lt
 obtain ⟨ra, fa⟩ := Q2q h hl ha
 obtain ⟨a0, a1⟩ := Q05.1 ha
 obtain ⟨rb, fb⟩ := Q2q h hl hb
 obtain ⟨b0, b1⟩ := Q05.1 hb
 have hix := Q3l
 go_enter Try.func67, Try.ntmps67
 go_upto_region 10 with fail
 obtain ⟨w0, e, he, hW, hs0, hx0, c0, c1, c2, c3, c4⟩ := new5 w 70 (.int .i64 2) (.int .i64 a) (.int .i64 b) (.int .i64 c) (.int .i64 n)
 rw [hW, he]
 have k1 : ∀ W, Ext w0 W → W.cell? ⟨e, 1, none⟩ = some (.int .i64 a) := fun _ h => h.kept c1
 have k2 : ∀ W, Ext w0 W → W.cell? ⟨e, 2, none⟩ = some (.int .i64 b) := fun _ h => h.kept c2
 have mb : ∀ W, Ext w0 W → W.cell? ⟨k, b.toNat, none⟩ = some (.int .i64 (rg l b)) := fun _ h => h.kept (hx0.kept rb)
 have rr := Q0c hx0 ⟨ra, fa⟩
 have X := Lib.hid hx0
 clear hW he hs0 hx0 c0 c1 c2 c3 c4 ra fa rb fb
 refine Q0z 9 (by kernel_rfl) (by kernel_rfl) ?_
 simp only [List.take_succ_cons, List.take_zero, List.drop_succ_cons, List.drop_zero]
 repeat (first | (refine Q0r ?_ ?_ (fun wc hE => ?_) ?_; (decide); rfl; (focus (go_simp; done)); go_simp) | (refine Q0l ?_ ?_ ?_; (decide); (first | rfl | (focus (go_simp; done))); apply Exists.intro; refine ⟨fun wc hE => ?_, ?_⟩; (go_simp; exact rfl); go_simp) | (refine Q0s ?_ ?_ ?_; (decide); (first | rfl | (focus (go_simp; done))); apply Exists.intro; refine ⟨fun wc hE => ?_, ?_⟩; (go_simp; (first | fail)); go_simp) | (refine Q0p ?_ ?_ ?_; (decide); (focus (go_simp; done)); go_simp))
 refine Q0q ?_
 intro wx hx
 have X := Lib.hid (X.out.trans hx)
 have rr := Q0c hx rr
 clear hx k1 k2 mb
 go_wp2
 go_ret
 obtain ⟨h1, h2⟩ := Q6u (a := a) (v := rg l b) (by have := Q05.1 ha; omega) (h.ext X.out) X.out
 first | exact Q6v (Q70 (by simp)) rfl h1 (Ext.refl _) h2
set_option maxRecDepth 100000 in
set_option maxHeartbeats 2000000 in
theorem Qla (k : Nat) (Y : Array Value) (cap : Nat) (E : TypeId) (l : List Int) (a b c n : Int) (hl : l.length = 10) (h64 : Q1q l) (ha : okIn 10 a = true) (hb : okIn 10 b = true) (w : World) (h : Blk w k E (regW Y l)) :
  Calls Try.prog 67 #[.slice (some ⟨k, 0, none⟩) 10 cap, insV ⟨10, a, b, c, n⟩] w (Q5h k Y E l ⟨10, a, b, c, n⟩ w) := by
 unfold insV
 simp only
 have hkl := h.lt
 obtain ⟨ra, fa⟩ := Q2q h hl ha
 obtain ⟨a0, a1⟩ := Q05.1 ha
 obtain ⟨rb, fb⟩ := Q2q h hl hb
 obtain ⟨b0, b1⟩ := Q05.1 hb
 have hix := Q3l
 go_enter Try.func67, Try.ntmps67
 go_upto_region 12 with fail
 obtain ⟨w0, e, he, hW, hs0, hx0, c0, c1, c2, c3, c4⟩ := new5 w 70 (.int .i64 10) (.int .i64 a) (.int .i64 b) (.int .i64 c) (.int .i64 n)
 rw [hW, he]
 have k1 : ∀ W, Ext w0 W → W.cell? ⟨e, 1, none⟩ = some (.int .i64 a) := fun _ h => h.kept c1
 have k2 : ∀ W, Ext w0 W → W.cell? ⟨e, 2, none⟩ = some (.int .i64 b) := fun _ h => h.kept c2
 have k4 : ∀ W, Ext w0 W → W.cell? ⟨e, 4, none⟩ = some (.int .i64 n) := fun _ h => h.kept c4
 have mb : ∀ W, Ext w0 W → W.cell? ⟨k, b.toNat, none⟩ = some (.int .i64 (rg l b)) := fun _ h => h.kept (hx0.kept rb)
 have rr := Q0c hx0 ⟨ra, fa⟩
 have X := Lib.hid hx0
 clear hW he hs0 hx0 c0 c1 c2 c3 c4 ra fa rb fb
 refine Q0z 12 (by kernel_rfl) (by kernel_rfl) ?_
 simp only [List.take_succ_cons, List.take_zero, List.drop_succ_cons, List.drop_zero]
 repeat (first | (refine Q0r ?_ ?_ (fun wc hE => ?_) ?_; (decide); rfl; (focus (go_simp; done)); go_simp) | (refine Q0l ?_ ?_ ?_; (decide); (first | rfl | (focus (go_simp; done))); apply Exists.intro; refine ⟨fun wc hE => ?_, ?_⟩; (go_simp; exact rfl); go_simp) | (refine Q0s ?_ ?_ ?_; (decide); (first | rfl | (focus (go_simp; done))); apply Exists.intro; refine ⟨fun wc hE => ?_, ?_⟩; (go_simp; (first | fail)); go_simp) | (refine Q0p ?_ ?_ ?_; (decide); (focus (go_simp; done)); go_simp))
 refine Q0q ?_
 intro wx hx
 have X := Lib.hid (X.out.trans hx)
 have rr := Q0c hx rr
 clear hx k1 k2 k4 mb
 go_wp2
 go_ret
 obtain ⟨h1, h2⟩ := Q6u (a := a) (v := wrap64 (rg l b + n)) (by have := Q05.1 ha; omega) (h.ext X.out) X.out
 try rw [show IntKind.i64.wrap (rg l b + n) = wrap64 (rg l b + n) by rw [IntKind.wrap_i64]; unfold wrap64; rfl]
 first | exact Q6v (Q70 (by simp)) rfl h1 (Ext.refl _) h2
set_option maxRecDepth 100000 in
set_option maxHeartbeats 2000000 in
theorem Ql8 (k : Nat) (Y : Array Value) (cap : Nat) (E : TypeId) (l : List Int) (a b c n : Int) (hl : l.length = 10) (h64 : Q1q l) (ha : okIn 10 a = true) (w : World) (h : Blk w k E (regW Y l)) :
  Calls Try.prog 67 #[.slice (some ⟨k, 0, none⟩) 10 cap, insV ⟨11, a, b, c, n⟩] w (Q5h k Y E l ⟨11, a, b, c, n⟩ w) := by
 unfold insV
 simp only
 have hkl := h.lt
 obtain ⟨ra, fa⟩ := Q2q h hl ha
 obtain ⟨a0, a1⟩ := Q05.1 ha
 have hix := Q3l
 have key : Hid (Q1f l ⟨11, a, b, c, n⟩ = rset l a 0) → ∀ w1, Ext w w1 → Blk w1 k E (regW Y l) → Q5h k Y E l ⟨11, a, b, c, n⟩ w (.returned (.slice none 0 0)) (w1.setCell ⟨k, a.toNat, none⟩ (.int .i64 0)) := by
  intro hr w1 hx hb
  obtain ⟨h1, h2⟩ := Q6u (a := a) (v := 0) (by have := Q05.1 ha; omega) hb hx
  exact Q6v (Q70 (by simp)) hr.out h1 (Ext.refl _) h2
 have Key := Lib.hid key
 clear key
 by_cases hneg : rg l a < 0
 ·have Hr : Hid (Q1f l ⟨11, a, b, c, n⟩ = rset l a 0) := Lib.hid (by simp [Q1f, hneg])
  go_enter Try.func67, Try.ntmps67
  go_upto_region 14 with fail
  obtain ⟨w0, e, he, hW, hs0, hx0, c0, c1, c2, c3, c4⟩ := new5 w 70 (.int .i64 11) (.int .i64 a) (.int .i64 b) (.int .i64 c) (.int .i64 n)
  rw [hW, he]
  have k1 : ∀ W, Ext w0 W → W.cell? ⟨e, 1, none⟩ = some (.int .i64 a) := fun _ h => h.kept c1
  have k4 : ∀ W, Ext w0 W → W.cell? ⟨e, 4, none⟩ = some (.int .i64 n) := fun _ h => h.kept c4
  have ma : ∀ W, Ext w0 W → W.cell? ⟨k, a.toNat, none⟩ = some (.int .i64 (rg l a)) := fun _ h => h.kept (hx0.kept ra)
  have rr := Q0c hx0 ⟨ra, fa⟩
  have X := Lib.hid hx0
  clear hW he hs0 hx0 c0 c2 c3 ra fa
  refine Q0z 16 (by kernel_rfl) (by kernel_rfl) ?_
  simp only [List.take_succ_cons, List.take_zero, List.drop_succ_cons, List.drop_zero]
  repeat (first | (refine Q0r ?_ ?_ (fun wc hE => ?_) ?_; (decide); rfl; (focus (go_simp; done)); go_simp) | (refine Q0l ?_ ?_ ?_; (decide); (first | rfl | (focus (go_simp; done))); apply Exists.intro; refine ⟨fun wc hE => ?_, ?_⟩; (go_simp; exact rfl); go_simp) | (refine Q0s ?_ ?_ ?_; (decide); (first | rfl | (focus (go_simp; done))); apply Exists.intro; refine ⟨fun wc hE => ?_, ?_⟩; (go_simp; (first | fail)); go_simp) | (refine Q0p ?_ ?_ ?_; (decide); (focus (go_simp; done)); go_simp))
  refine Q0q ?_
  intro wx hx
  have X := Lib.hid (X.out.trans hx)
  have rr := Q0c hx rr
  have c1 := hx.kept c1
  clear hx c4 k1 k4 ma
  go_wp2
  go_ret
  first | exact Key.out Hr wx X.out (h.ext X.out)
 by_cases hge : n ≤ rg l a
 ·have Hr : Hid (Q1f l ⟨11, a, b, c, n⟩ = rset l a 0) := Lib.hid (by simp [Q1f, hge])
  have hn0 : decide (rg l a < 0) = false := by simpa using hneg
  clear hneg
  go_enter Try.func67, Try.ntmps67
  go_upto_region 14 with fail
  obtain ⟨w0, e, he, hW, hs0, hx0, c0, c1, c2, c3, c4⟩ := new5 w 70 (.int .i64 11) (.int .i64 a) (.int .i64 b) (.int .i64 c) (.int .i64 n)
  rw [hW, he]
  have k1 : ∀ W, Ext w0 W → W.cell? ⟨e, 1, none⟩ = some (.int .i64 a) := fun _ h => h.kept c1
  have k4 : ∀ W, Ext w0 W → W.cell? ⟨e, 4, none⟩ = some (.int .i64 n) := fun _ h => h.kept c4
  have ma : ∀ W, Ext w0 W → W.cell? ⟨k, a.toNat, none⟩ = some (.int .i64 (rg l a)) := fun _ h => h.kept (hx0.kept ra)
  have rr := Q0c hx0 ⟨ra, fa⟩
  have X := Lib.hid hx0
  clear hW he hs0 hx0 c0 c2 c3 ra fa
  refine Q0z 16 (by kernel_rfl) (by kernel_rfl) ?_
  simp only [List.take_succ_cons, List.take_zero, List.drop_succ_cons, List.drop_zero]
  repeat (first | (refine Q0r ?_ ?_ (fun wc hE => ?_) ?_; (decide); rfl; (focus (go_simp; done)); go_simp) | (refine Q0l ?_ ?_ ?_; (decide); (first | rfl | (focus (go_simp; done))); apply Exists.intro; refine ⟨fun wc hE => ?_, ?_⟩; (go_simp; exact rfl); go_simp) | (refine Q0s ?_ ?_ ?_; (decide); (first | rfl | (focus (go_simp; done))); apply Exists.intro; refine ⟨fun wc hE => ?_, ?_⟩; (go_simp; (first | fail)); go_simp) | (refine Q0p ?_ ?_ ?_; (decide); (focus (go_simp; done)); go_simp))
  refine Q0q ?_
  intro wx hx
  have X := Lib.hid (X.out.trans hx)
  have rr := Q0c hx rr
  have c1 := hx.kept c1
  clear hx c4 k1 k4 ma
  go_wp2
  go_ret
  first | exact Key.out Hr wx X.out (h.ext X.out)
 ·have Hr : Hid (Q1f l ⟨11, a, b, c, n⟩ = l) := Lib.hid (by simp [Q1f, hge, hneg])
  have hn0 : decide (rg l a < 0) = false := by simpa using hneg
  have hn1 : decide (n ≤ rg l a) = false := by simpa using hge
  clear hneg hge
  go_enter Try.func67, Try.ntmps67
  go_upto_region 14 with fail
  obtain ⟨w0, e, he, hW, hs0, hx0, c0, c1, c2, c3, c4⟩ := new5 w 70 (.int .i64 11) (.int .i64 a) (.int .i64 b) (.int .i64 c) (.int .i64 n)
  rw [hW, he]
  have k1 : ∀ W, Ext w0 W → W.cell? ⟨e, 1, none⟩ = some (.int .i64 a) := fun _ h => h.kept c1
  have k4 : ∀ W, Ext w0 W → W.cell? ⟨e, 4, none⟩ = some (.int .i64 n) := fun _ h => h.kept c4
  have ma : ∀ W, Ext w0 W → W.cell? ⟨k, a.toNat, none⟩ = some (.int .i64 (rg l a)) := fun _ h => h.kept (hx0.kept ra)
  have rr := Q0c hx0 ⟨ra, fa⟩
  have X := Lib.hid hx0
  clear hW he hs0 hx0 c0 c2 c3 ra fa
  refine Q0z 16 (by kernel_rfl) (by kernel_rfl) ?_
  simp only [List.take_succ_cons, List.take_zero, List.drop_succ_cons, List.drop_zero]
  repeat (first | (refine Q0r ?_ ?_ (fun wc hE => ?_) ?_; (decide); rfl; (focus (go_simp; done)); go_simp) | (refine Q0l ?_ ?_ ?_; (decide); (first | rfl | (focus (go_simp; done))); apply Exists.intro; refine ⟨fun wc hE => ?_, ?_⟩; (go_simp; exact rfl); go_simp) | (refine Q0s ?_ ?_ ?_; (decide); (first | rfl | (focus (go_simp; done))); apply Exists.intro; refine ⟨fun wc hE => ?_, ?_⟩; (go_simp; (first | fail)); go_simp) | (refine Q0p ?_ ?_ ?_; (decide); (focus (go_simp; done)); go_simp))
  refine Q0q ?_
  intro wx hx
  have X := Lib.hid (X.out.trans hx)
  have rr := Q0c hx rr
  have c1 := hx.kept c1
  clear hx c4 k1 k4 ma
  go_wp2
  go_ret
  first | exact Q6v (Q70 (by simp)) Hr.out (Q81 X.out _) (Ext.refl _) (h.ext X.out)
set_option maxRecDepth 100000 in
set_option maxHeartbeats 2000000 in
theorem Ql9 (k : Nat) (Y : Array Value) (cap : Nat) (E : TypeId) (l : List Int) (a b c n : Int) (hl : l.length = 10) (h64 : Q1q l) (hop : True) (w : World) (h : Blk w k E (regW Y l)) :
  Calls Try.prog 67 #[.slice (some ⟨k, 0, none⟩) 10 cap, insV ⟨12, a, b, c, n⟩] w (Q5h k Y E l ⟨12, a, b, c, n⟩ w) := by
 unfold insV
 simp only
 have hkl := h.lt
 have hix := Q3l
 go_enter Try.func67, Try.ntmps67
 go_wp2
 go_ret
 exact Q6v (Q70 (by simp)) rfl (Q81 (Ext.refl _) _) ((Ext.refl _).alloc _) h
set_option maxRecDepth 100000 in
set_option maxHeartbeats 2000000 in
theorem Q8j (k : Nat) (Y : Array Value) (cap : Nat) (E : TypeId) (l : List Int) (op a b c n : Int) (hl : l.length = 10) (h64 : Q1q l) (ha : okIn 10 a = true) (hb : okIn 10 b = true) (hc : okIn 10 c = true) (o1 : 21 ≤ op) (o2 : op ≤ 28) (w : World) (h : Blk w k E (regW Y l)) :
  Calls Try.prog 67 #[.slice (some ⟨k, 0, none⟩) 10 cap, insV ⟨op, a, b, c, n⟩] w (Q5h k Y E l ⟨op, a, b, c, n⟩ w) := by
 unfold insV
 simp only
 have hkl := h.lt
 obtain ⟨ra, fa⟩ := Q2q h hl ha
 obtain ⟨a0, a1⟩ := Q05.1 ha
 obtain ⟨rb, fb⟩ := Q2q h hl hb
 obtain ⟨b0, b1⟩ := Q05.1 hb
 obtain ⟨rc, fc⟩ := Q2q h hl hc
 obtain ⟨c0, c1⟩ := Q05.1 hc
 have hsub : IntKind.i64.wrap (op - 20) = op - 20 := Go.IntWalk.i64_in _ (by omega)
 have q1 : (op == (1 : Int)) = false := by simp; try omega
 have q2 : (op == (2 : Int)) = false := by simp; try omega
 have q3 : (op == (10 : Int)) = false := by simp; try omega
 have q4 : (op == (11 : Int)) = false := by simp; try omega
 have q5 : (op == (12 : Int)) = false := by simp; try omega
 have q6 : (op == (29 : Int)) = false := by simp; omega
 have q7 : (op == (30 : Int)) = false := by simp; omega
 have Hr : Hid (Q1f l ⟨op, a, b, c, n⟩ = rset l a (nop (op - 20) (rg l b) (rg l c))) := Lib.hid (by
  unfold Q1f
  rw [if_neg (by simp only; omega), if_neg (by simp only; omega), if_neg (by simp only; omega), if_neg (by simp only; omega), if_neg (by simp only; omega)]
  try rfl)
 have hix := Q3l
 go_enter Try.func67, Try.ntmps67
 go_upto_region 4 with fail
 obtain ⟨w0, e, he, hW, hs0, hx0, c0, c1, c2, c3, c4⟩ := new5 w 70 (.int .i64 op) (.int .i64 a) (.int .i64 b) (.int .i64 c) (.int .i64 n)
 rw [hW, he]
 have k0 : ∀ W, Ext w0 W → W.cell? ⟨e, 0, none⟩ = some (.int .i64 op) := fun _ h => h.kept c0
 have k1 : ∀ W, Ext w0 W → W.cell? ⟨e, 1, none⟩ = some (.int .i64 a) := fun _ h => h.kept c1
 have k2 : ∀ W, Ext w0 W → W.cell? ⟨e, 2, none⟩ = some (.int .i64 b) := fun _ h => h.kept c2
 have k3 : ∀ W, Ext w0 W → W.cell? ⟨e, 3, none⟩ = some (.int .i64 c) := fun _ h => h.kept c3
 have mb : ∀ W, Ext w0 W → W.cell? ⟨k, b.toNat, none⟩ = some (.int .i64 (rg l b)) := fun _ h => h.kept (hx0.kept rb)
 have mc : ∀ W, Ext w0 W → W.cell? ⟨k, c.toNat, none⟩ = some (.int .i64 (rg l c)) := fun _ h => h.kept (hx0.kept rc)
 have rr := Q0c hx0 ⟨ra, fa⟩
 have X := Lib.hid hx0
 have C0 : w0.cell? ⟨e, 0, none⟩ = some (.int .i64 op) := c0
 obtain ⟨vb0, vb1⟩ := rg64 h64 b
 obtain ⟨vc0, vc1⟩ := rg64 h64 c
 have hke : k ≠ e := by omega
 clear hW hs0 hx0 c0 c1 c2 c3 c4 ra fa rb fb rc fc
 refine Q0z 10 (by kernel_rfl) (by kernel_rfl) ?_
 simp only [List.take_succ_cons, List.take_zero, List.drop_succ_cons, List.drop_zero]
 repeat (first | (refine Q0r ?_ ?_ (fun wc hE => ?_) ?_; (decide); rfl; (focus (go_simp; done)); go_simp) | (refine Q0l ?_ ?_ ?_; (decide); (first | rfl | (focus (go_simp; done))); apply Exists.intro; refine ⟨fun wc hE => ?_, ?_⟩; (go_simp; exact rfl); go_simp) | (refine Q0s ?_ ?_ ?_; (decide); (first | rfl | (focus (go_simp; done))); apply Exists.intro; refine ⟨fun wc hE => ?_, ?_⟩; (go_simp; (first | (with_reducible exact Q1j (Qb9 (op - 20) (rg l b) (rg l c) _ vb0 vb1 vc0 vc1)))); go_simp) | (refine Q0p ?_ ?_ ?_; (decide); (focus (go_simp; done)); go_simp))
 refine Q0q ?_
 intro wx hx
 have X := Lib.hid (X.out.trans hx)
 have rr := Q0c hx rr
 have C0 := hx.kept C0
 clear hx k0 k1 k2 k3 mb mc hsub
 go_wp2
 go_ret
 obtain ⟨h1, h2⟩ := Q6u (a := a) (v := nop (op - 20) (rg l b) (rg l c)) (by have := Q05.1 ha; omega) (h.ext X.out) X.out
 first | exact Q6v (Q70 (by simp only; omega)) Hr.out h1 (Ext.refl _) h2
set_option maxRecDepth 100000 in
set_option maxHeartbeats 2000000 in
theorem Ql6 (k : Nat) (Y : Array Value) (cap : Nat) (E : TypeId) (l : List Int) (a b c n : Int) (hl : l.length = 10) (h64 : Q1q l) (ha : okIn 10 a = true) (hb : okIn 10 b = true) (hc : okIn 10 c = true) (w : World) (h : Blk w k E (regW Y l)) :
  Calls Try.prog 67 #[.slice (some ⟨k, 0, none⟩) 10 cap, insV ⟨29, a, b, c, n⟩] w (Q5h k Y E l ⟨29, a, b, c, n⟩ w) := by
 unfold insV
 simp only
 have hkl := h.lt
 obtain ⟨ra, fa⟩ := Q2q h hl ha
 obtain ⟨a0, a1⟩ := Q05.1 ha
 obtain ⟨rb, fb⟩ := Q2q h hl hb
 obtain ⟨b0, b1⟩ := Q05.1 hb
 obtain ⟨rc, fc⟩ := Q2q h hl hc
 obtain ⟨c0, c1⟩ := Q05.1 hc
 have hsub : IntKind.i64.wrap (9) = 9 := Go.IntWalk.i64_in _ (by omega)
 have q1 : (29 == (1 : Int)) = false := by simp; try omega
 have q2 : (29 == (2 : Int)) = false := by simp; try omega
 have q3 : (29 == (10 : Int)) = false := by simp; try omega
 have q4 : (29 == (11 : Int)) = false := by simp; try omega
 have q5 : (29 == (12 : Int)) = false := by simp; try omega
 have Hr : Hid (Q1f l ⟨29, a, b, c, n⟩ = rset l a (nop (9) (rg l b) (rg l c))) := Lib.hid (by
  unfold Q1f
  rw [if_neg (by simp only; omega), if_neg (by simp only; omega), if_neg (by simp only; omega), if_neg (by simp only; omega), if_neg (by simp only; omega)]
  try rfl)
 have hix := Q3l
 go_enter Try.func67, Try.ntmps67
 go_upto_region 4 with fail
 obtain ⟨w0, e, he, hW, hs0, hx0, c0, c1, c2, c3, c4⟩ := new5 w 70 (.int .i64 29) (.int .i64 a) (.int .i64 b) (.int .i64 c) (.int .i64 n)
 rw [hW, he]
 have k0 : ∀ W, Ext w0 W → W.cell? ⟨e, 0, none⟩ = some (.int .i64 29) := fun _ h => h.kept c0
 have k1 : ∀ W, Ext w0 W → W.cell? ⟨e, 1, none⟩ = some (.int .i64 a) := fun _ h => h.kept c1
 have k2 : ∀ W, Ext w0 W → W.cell? ⟨e, 2, none⟩ = some (.int .i64 b) := fun _ h => h.kept c2
 have k3 : ∀ W, Ext w0 W → W.cell? ⟨e, 3, none⟩ = some (.int .i64 c) := fun _ h => h.kept c3
 have mb : ∀ W, Ext w0 W → W.cell? ⟨k, b.toNat, none⟩ = some (.int .i64 (rg l b)) := fun _ h => h.kept (hx0.kept rb)
 have mc : ∀ W, Ext w0 W → W.cell? ⟨k, c.toNat, none⟩ = some (.int .i64 (rg l c)) := fun _ h => h.kept (hx0.kept rc)
 have rr := Q0c hx0 ⟨ra, fa⟩
 have X := Lib.hid hx0
 have C0 : w0.cell? ⟨e, 0, none⟩ = some (.int .i64 29) := c0
 obtain ⟨vb0, vb1⟩ := rg64 h64 b
 obtain ⟨vc0, vc1⟩ := rg64 h64 c
 have hke : k ≠ e := by omega
 clear hW hs0 hx0 c0 c1 c2 c3 c4 ra fa rb fb rc fc
 refine Q0z 10 (by kernel_rfl) (by kernel_rfl) ?_
 simp only [List.take_succ_cons, List.take_zero, List.drop_succ_cons, List.drop_zero]
 repeat (first | (refine Q0r ?_ ?_ (fun wc hE => ?_) ?_; (decide); rfl; (focus (go_simp; done)); go_simp) | (refine Q0l ?_ ?_ ?_; (decide); (first | rfl | (focus (go_simp; done))); apply Exists.intro; refine ⟨fun wc hE => ?_, ?_⟩; (go_simp; exact rfl); go_simp) | (refine Q0s ?_ ?_ ?_; (decide); (first | rfl | (focus (go_simp; done))); apply Exists.intro; refine ⟨fun wc hE => ?_, ?_⟩; (go_simp; (first | (with_reducible exact Q1j (Qb9 (9) (rg l b) (rg l c) _ vb0 vb1 vc0 vc1)))); go_simp) | (refine Q0p ?_ ?_ ?_; (decide); (focus (go_simp; done)); go_simp))
 refine Q0q ?_
 intro wx hx
 have X := Lib.hid (X.out.trans hx)
 have rr := Q0c hx rr
 have C0 := hx.kept C0
 clear hx k0 k1 k2 k3 mb mc hsub
 go_wp2
 go_ret
 obtain ⟨h1, h2⟩ := Q6u (a := a) (v := nop (9) (rg l b) (rg l c)) (by have := Q05.1 ha; omega) (h.ext X.out) X.out
 have hs : Q2e l ⟨29, a, b, c, n⟩ = [⟨3, rg l b, rg l c⟩] := rfl
 have hg := Qa9 h1 (Q81 ((Ext.refl _).alloc (.cells #[.int .i64 3, .int .i64 (rg l b), .int .i64 (rg l c)] 98)) _)
 have hb := Blk.new (wx.setCell ⟨k, a.toNat, none⟩ (.int .i64 (nop 9 (rg l b) (rg l c)))) 98 #[.int .i64 3, .int .i64 (rg l b), .int .i64 (rg l c)]
 rw [Q2w] at hb
 exact ⟨some ⟨wx.heap.size, 0, none⟩, 1, by rw [hs]; rfl, by rw [hs]; exact Q41 (size := 3) hb rfl (by simp [Value.oneCell']), hg, by rw [Hr.out]; exact h2.alloc _⟩
set_option maxRecDepth 100000 in
set_option maxHeartbeats 2000000 in
theorem Ql5 (k : Nat) (Y : Array Value) (cap : Nat) (E : TypeId) (l : List Int) (a b c n : Int) (hl : l.length = 10) (h64 : Q1q l) (ha : okIn 10 a = true) (hb : okIn 10 b = true) (hc : okIn 10 c = true) (w : World) (h : Blk w k E (regW Y l)) :
  Calls Try.prog 67 #[.slice (some ⟨k, 0, none⟩) 10 cap, insV ⟨30, a, b, c, n⟩] w (Q5h k Y E l ⟨30, a, b, c, n⟩ w) := by
 unfold insV
 simp only
 have hkl := h.lt
 obtain ⟨ra, fa⟩ := Q2q h hl ha
 obtain ⟨a0, a1⟩ := Q05.1 ha
 obtain ⟨rb, fb⟩ := Q2q h hl hb
 obtain ⟨b0, b1⟩ := Q05.1 hb
 obtain ⟨rc, fc⟩ := Q2q h hl hc
 obtain ⟨c0, c1⟩ := Q05.1 hc
 have hsub : IntKind.i64.wrap (10) = 10 := Go.IntWalk.i64_in _ (by omega)
 have q1 : (30 == (1 : Int)) = false := by simp; try omega
 have q2 : (30 == (2 : Int)) = false := by simp; try omega
 have q3 : (30 == (10 : Int)) = false := by simp; try omega
 have q4 : (30 == (11 : Int)) = false := by simp; try omega
 have q5 : (30 == (12 : Int)) = false := by simp; try omega
 have Hr : Hid (Q1f l ⟨30, a, b, c, n⟩ = rset l a (nop (10) (rg l b) (rg l c))) := Lib.hid (by
  unfold Q1f
  rw [if_neg (by simp only; omega), if_neg (by simp only; omega), if_neg (by simp only; omega), if_neg (by simp only; omega), if_neg (by simp only; omega)]
  try rfl)
 have hix := Q3l
 go_enter Try.func67, Try.ntmps67
 go_upto_region 4 with fail
 obtain ⟨w0, e, he, hW, hs0, hx0, c0, c1, c2, c3, c4⟩ := new5 w 70 (.int .i64 30) (.int .i64 a) (.int .i64 b) (.int .i64 c) (.int .i64 n)
 rw [hW, he]
 have k0 : ∀ W, Ext w0 W → W.cell? ⟨e, 0, none⟩ = some (.int .i64 30) := fun _ h => h.kept c0
 have k1 : ∀ W, Ext w0 W → W.cell? ⟨e, 1, none⟩ = some (.int .i64 a) := fun _ h => h.kept c1
 have k2 : ∀ W, Ext w0 W → W.cell? ⟨e, 2, none⟩ = some (.int .i64 b) := fun _ h => h.kept c2
 have k3 : ∀ W, Ext w0 W → W.cell? ⟨e, 3, none⟩ = some (.int .i64 c) := fun _ h => h.kept c3
 have mb : ∀ W, Ext w0 W → W.cell? ⟨k, b.toNat, none⟩ = some (.int .i64 (rg l b)) := fun _ h => h.kept (hx0.kept rb)
 have mc : ∀ W, Ext w0 W → W.cell? ⟨k, c.toNat, none⟩ = some (.int .i64 (rg l c)) := fun _ h => h.kept (hx0.kept rc)
 have rr := Q0c hx0 ⟨ra, fa⟩
 have X := Lib.hid hx0
 have C0 : w0.cell? ⟨e, 0, none⟩ = some (.int .i64 30) := c0
 obtain ⟨vb0, vb1⟩ := rg64 h64 b
 obtain ⟨vc0, vc1⟩ := rg64 h64 c
 have hke : k ≠ e := by omega
 clear hW hs0 hx0 c0 c1 c2 c3 c4 ra fa rb fb rc fc
 refine Q0z 10 (by kernel_rfl) (by kernel_rfl) ?_
 simp only [List.take_succ_cons, List.take_zero, List.drop_succ_cons, List.drop_zero]
 repeat (first | (refine Q0r ?_ ?_ (fun wc hE => ?_) ?_; (decide); rfl; (focus (go_simp; done)); go_simp) | (refine Q0l ?_ ?_ ?_; (decide); (first | rfl | (focus (go_simp; done))); apply Exists.intro; refine ⟨fun wc hE => ?_, ?_⟩; (go_simp; exact rfl); go_simp) | (refine Q0s ?_ ?_ ?_; (decide); (first | rfl | (focus (go_simp; done))); apply Exists.intro; refine ⟨fun wc hE => ?_, ?_⟩; (go_simp; (first | (with_reducible exact Q1j (Qb9 (10) (rg l b) (rg l c) _ vb0 vb1 vc0 vc1)))); go_simp) | (refine Q0p ?_ ?_ ?_; (decide); (focus (go_simp; done)); go_simp))
 refine Q0q ?_
 intro wx hx
 have X := Lib.hid (X.out.trans hx)
 have rr := Q0c hx rr
 have C0 := hx.kept C0
 clear hx k0 k1 k2 k3 mb mc hsub
 go_wp2
 go_ret
 obtain ⟨h1, h2⟩ := Q6u (a := a) (v := nop (10) (rg l b) (rg l c)) (by have := Q05.1 ha; omega) (h.ext X.out) X.out
 have hs : Q2e l ⟨30, a, b, c, n⟩ = [⟨3, rg l b, rg l c⟩] := rfl
 have hg := Qa9 h1 (Q81 ((Ext.refl _).alloc (.cells #[.int .i64 3, .int .i64 (rg l b), .int .i64 (rg l c)] 98)) _)
 have hb := Blk.new (wx.setCell ⟨k, a.toNat, none⟩ (.int .i64 (nop 10 (rg l b) (rg l c)))) 98 #[.int .i64 3, .int .i64 (rg l b), .int .i64 (rg l c)]
 rw [Q2w] at hb
 exact ⟨some ⟨wx.heap.size, 0, none⟩, 1, by rw [hs]; rfl, by rw [hs]; exact Q41 (size := 3) hb rfl (by simp [Value.oneCell']), hg, by rw [Hr.out]; exact h2.alloc _⟩
theorem Qlt (k : Nat) (Y : Array Value) (cap : Nat) (E : TypeId) (l : List Int) (p : Q01) (i : LIns) (hl : l.length = 10) (h64 : Q1q l) (hi : Q00 p 10 i = true) (h3 : i.op ≠ 3 ∧ i.op ≠ 4 ∧ i.op ≠ 5 ∧ i.op ≠ 6 ∧ i.op ≠ 7 ∧ i.op ≠ 8 ∧ i.op ≠ 9) (w : World) (h : Blk w k E (regW Y l)) :
  Calls Try.prog 67 #[.slice (some ⟨k, 0, none⟩) 10 cap, insV i] w (Q5h k Y E l i w) := by
 obtain ⟨g1, g2, g10, g3, g5, g8, g9, g11, go, g7, gop⟩ := Q2t hi
 obtain ⟨op, a, b, c, n⟩ := i
 simp only at h3
 by_cases e1 : op = 1
 ·subst e1; exact Ql4 k Y cap E l a b c n hl h64 (g1 rfl) w h
 by_cases e2 : op = 2
 ·subst e2; exact Ql7 k Y cap E l a b c n hl h64 (g2 rfl).1 (g2 rfl).2 w h
 by_cases e10 : op = 10
 ·subst e10; exact Qla k Y cap E l a b c n hl h64 (g10 rfl).1 (g10 rfl).2 w h
 by_cases e11 : op = 11
 ·subst e11; exact Ql8 k Y cap E l a b c n hl h64 (g11 rfl).1 w h
 by_cases e12 : op = 12
 ·subst e12; exact Ql9 k Y cap E l a b c n hl h64 trivial w h
 obtain ⟨p1, p2, p3, p4, p5⟩ := go e1 e2 e10 h3.1 h3.2.1 h3.2.2.1 h3.2.2.2.1 h3.2.2.2.2.1 h3.2.2.2.2.2.1 h3.2.2.2.2.2.2 e11 e12
 simp only at p4 p5
 by_cases e29 : op = 29
 ·subst e29; exact Ql6 k Y cap E l a b c n hl h64 p1 p2 p3 w h
 by_cases e30 : op = 30
 ·subst e30; exact Ql5 k Y cap E l a b c n hl h64 p1 p2 p3 w h
 exact Q8j k Y cap E l op a b c n hl h64 p1 p2 p3 p4 (by omega) w h
theorem own_at' {w : World} {B : Nat} {e : TypeId} {v : Value} {n : Nat} {xs : List Value} (h : w.ownsRow B e 1 v n xs) (hn : 0 < n) : ∃ k cap, v = .slice (some ⟨k, 0, none⟩) n cap ∧ B ≤ k ∧ ∀ j x, j < n → xs[j]? = some x → w.cell? ⟨k, j, none⟩ = some x ∧ w.frozen? ⟨k, j, none⟩ = false := by
 have h' := h
 rcases h.2 with ⟨-, h0⟩ | ⟨k, cap, cur, rfl, a1, a2, a3⟩
 ·omega
 ·exact ⟨k, cap, rfl, a1, fun j x hj hx => ⟨by rw [h'.cellAt j (by omega), hx], h'.frozenAt j⟩⟩
structure Fam (w : World) (B : Nat) (L : List (Value × List Int)) : Prop where
 own : ∀ x ∈ L, w.ownsRow B 2 1 x.1 x.2.length (x.2.map (Value.int .i64))
 apart : L.Pairwise fun x y => ∀ k, x.1.ownBlock = some k → y.1.ownBlock ≠ some k
section
variable {w w' : World} {B B' : Nat} {L L' : List (Value × List Int)}
theorem own_mono' {w : World} {b b' : Nat} {e : TypeId} {s n : Nat} {v : Value} {xs : List Value} (h : w.ownsRow b e s v n xs) (hb : b' ≤ b) : w.ownsRow b' e s v n xs := by
 refine ⟨h.1, ?_⟩
 rcases h.2 with h | ⟨g, cap, cur, rfl, h1, h2, h3⟩
 ·exact .inl h
 ·exact .inr ⟨g, cap, cur, rfl, by omega, h2, h3⟩
theorem Fam.nil (w : World) (B : Nat) : Fam w B [] := ⟨fun x h => by simp at h, List.Pairwise.nil⟩
theorem Fam.ext (h : Fam w B L) (hx : Ext w w') : Fam w' B L := ⟨fun x k => Q34 (h.own x k) hx, h.apart⟩
theorem Fam.mono (h : Fam w B L) (hB : B' ≤ B) : Fam w B' L := ⟨fun x k => own_mono' (h.own x k) hB, h.apart⟩
theorem Fam.kept (h : Fam w B L) {row : Option Nat} (hg : w.grownBy w' row) (hne : ∀ x ∈ L, ∀ k, row = some k → x.1.ownBlock ≠ some k) : Fam w' B L :=
 ⟨fun x k => Q22 (h.own x k) hg (hne x k), h.apart⟩
theorem Fam.far (h : Fam w B L) {g : Nat} {t : TypeId} {cs : Array Value} (hb : Blk w g t cs) (ht : 2 ≠ t) (i : Nat) (u : Value) : Fam (w.setCell ⟨g, i, none⟩ u) B L :=
 ⟨fun x k => Q1e (p := ⟨g, i, none⟩) (h.own x k) (Q09 (h.own x k) hb ht) u, h.apart⟩
theorem Fam.other (h : Fam w B L) {e : TypeId} {s n : Nat} {v : Value} {xs : List Value} (ho : w.ownsRow B e s v n xs) (he : e ≠ 2) (hg : w.grownBy w' v.ownBlock) : Fam w' B L :=
 h.kept hg fun x hx k hk => Q1w ho (h.own x hx) he k hk
theorem Fam.sub (h : Fam w B L) (hs : L'.Sublist L) : Fam w B L' := ⟨fun x k => h.own x (hs.subset k), h.apart.sublist hs⟩
theorem Fam.size (h : Fam w B L) {x : Value × List Int} (hx : x ∈ L) : ∀ k, x.1.ownBlock = some k → B ≤ k ∧ k < w.heap.size := fun k hk => (h.own x hx).lt k hk
theorem Fam.app (h : Fam w B L) (h' : Fam w B' L') (hB : B ≤ B') (hlt : ∀ x ∈ L, ∀ k, x.1.ownBlock = some k → k < B') : Fam w B (L ++ L') := by
 refine ⟨fun x hx => ?_, ?_⟩
 ·rcases List.mem_append.1 hx with k | k
  ·exact h.own x k
  ·exact own_mono' (h'.own x k) hB
 ·rw [List.pairwise_append]
  refine ⟨h.apart, h'.apart, fun a ha b hb k hk hk' => ?_⟩
  have h1 := hlt a ha k hk
  have h2 := (h'.size hb k hk').1
  omega
theorem Fam.ne (h : Fam w B L) {i j : Nat} (hij : i ≠ j) {x y : Value × List Int} (hi : L[i]? = some x) (hj : L[j]? = some y) : ∀ k, x.1.ownBlock = some k → y.1.ownBlock ≠ some k := by
 obtain ⟨hi1, rfl⟩ := List.getElem?_eq_some_iff.1 hi
 obtain ⟨hj1, rfl⟩ := List.getElem?_eq_some_iff.1 hj
 have hp := List.pairwise_iff_getElem.1 h.apart
 intro k hk hk'
 rcases Nat.lt_or_gt_of_ne hij with hl | hl
 ·exact hp i j hi1 hj1 hl k hk hk'
 ·exact hp j i hj1 hi1 hl k hk' hk
theorem Fam.at_ (h : Fam w B L) {i : Nat} {v : Value} {l : List Int} (hi : L[i]? = some (v, l)) : w.ownsRow B 2 1 v l.length (l.map (Value.int .i64)) := by
 obtain ⟨hi1, e⟩ := List.getElem?_eq_some_iff.1 hi
 have := h.own _ (List.getElem_mem hi1)
 rw [e] at this
 exact this
theorem Fam.set_ (h : Fam w B L) {i : Nat} {v v' : Value} {l l' : List Int} (hi : L[i]? = some (v, l)) (hg : w.grownBy w' v.ownBlock) (ho : w'.ownsRow B 2 1 v' l'.length (l'.map (Value.int .i64)))
  (hat : ∀ k, v'.ownBlock = some k → v.ownBlock = some k ∨ w.heap.size ≤ k) : Fam w' B (L.set i (v', l')) := by
 have hi1 := (List.getElem?_eq_some_iff.1 hi).1
 have hset : ∀ j, j < L.length → (L.set i (v', l'))[j]? = if j = i then some (v', l') else L[j]? := fun j hj => by
  rw [List.getElem?_set]
  by_cases e : i = j
  ·subst e; simp [hj]
  ·rw [if_neg e, if_neg (fun e' => e e'.symm)]
 have hap : ∀ j x, j ≠ i → L[j]? = some x → ∀ k, v'.ownBlock = some k → x.1.ownBlock ≠ some k := fun j x hj hx k hk hk' => by
  rcases hat k hk with h1 | h1
  ·exact h.ne (Ne.symm hj) hi hx k h1 hk'
  ·have := (h.size (List.mem_of_getElem? hx) k hk').2
   omega
 refine ⟨fun x hx => ?_, ?_⟩
 ·obtain ⟨j, hj, rfl⟩ := List.getElem_of_mem hx
  have hj' : j < L.length := by simpa using hj
  have hs := hset j hj'
  rw [List.getElem?_eq_getElem hj] at hs
  by_cases e : j = i
  ·rw [if_pos e] at hs
   rw [Option.some.inj hs]
   exact ho
  ·rw [if_neg e, List.getElem?_eq_getElem hj'] at hs
   rw [Option.some.inj hs]
   exact Q22 (h.own _ (List.getElem_mem hj')) hg (fun k hk => h.ne (Ne.symm e) hi (List.getElem?_eq_getElem hj') k hk)
 ·rw [List.pairwise_iff_getElem]
  intro a b ha hb hab
  have ha' : a < L.length := by simpa using ha
  have hb' : b < L.length := by simpa using hb
  have sa := hset a ha'
  have sb := hset b hb'
  rw [List.getElem?_eq_getElem ha] at sa
  rw [List.getElem?_eq_getElem hb] at sb
  by_cases ea : a = i
  ·rw [if_pos ea] at sa
   have eb : b ≠ i := by omega
   rw [if_neg eb] at sb
   rw [Option.some.inj sa]
   exact hap b _ eb sb.symm
  ·rw [if_neg ea] at sa
   by_cases eb : b = i
   ·rw [if_pos eb] at sb
    rw [Option.some.inj sb]
    intro k hk hk'
    exact hap a _ ea sa.symm k hk' hk
   ·rw [if_neg eb] at sb
    exact h.ne (by omega) sa.symm sb.symm
theorem Fam.put (h : Fam w B L) {i k n cap x : Nat} {l : List Int} (hi : L[i]? = some (.slice (some ⟨k, 0, none⟩) n cap, l)) (z : Int) : Fam (w.setCell ⟨k, x, none⟩ (.int .i64 z)) B (L.set i (.slice (some ⟨k, 0, none⟩) n cap, l.set x z)) := by
 have ho := h.at_ hi
 obtain rfl : n = l.length := by
  rcases ho.2 with ⟨h0, -⟩ | ⟨g, c, cur, hv, -⟩
  ·cases h0
  ·simp only [Value.slice.injEq] at hv
   exact hv.2.1
 refine h.set_ hi (Q8e w ⟨k, x, none⟩ _) ?_ (fun j hj => .inl hj)
 have := (ho.stored x (.int .i64 z)).1
 rw [List.length_set, List.map_set]
 exact this
end
def Lo (B : Nat) (w : World) (j : Nat) : Prop := B ≤ j ∧ ∃ t cs, Blk w j t cs ∧ (t = 117 ∨ t = 2 ∨ t = 71 ∨ t = 98)
def Q0u (B : Nat) (w w' : World) : Prop := Turn (Lo B w) w w'
section
variable {w w' w'' : World} {B : Nat}
theorem Q0u.refl (w : World) : Q0u B w w := Turn.refl w
theorem Q0u.ofExt (h : Ext w w') : Q0u B w w' := Turn.ofExt h
theorem Q0u.trans (h : Q0u B w w') (k : Q0u B w' w'') : Q0u B w w'' := by
 refine Turn.trans (S' := Lo B w') h k fun j hj hl => ?_
 by_cases e : Lo B w j
 ·exact e
 ·obtain ⟨h1, t, cs, hb, ht⟩ := hl
  refine ⟨h1, t, cs, ?_, ht⟩
  unfold Blk at hb ⊢
  rw [← Turn.block h j hj e]
  exact hb
theorem Q0u.ext (h : Q0u B w w') (k : Ext w' w'') : Q0u B w w'' := h.trans (Q0u.ofExt k)
theorem Q0u.blk (h : Q0u B w w') {k : Nat} {t : TypeId} {cs : Array Value} (hb : Blk w k t cs) (h1 : t ≠ 117) (h2 : t ≠ 2) (h3 : t ≠ 71) (h4 : t ≠ 98) : Blk w' k t cs := by
 refine hb.turn h ?_
 rintro ⟨-, t', cs', hb', ht⟩
 unfold Blk at hb hb'
 rw [hb] at hb'
 simp only [Option.some.injEq, Obj.cells.injEq, and_true] at hb'
 obtain ⟨-, rfl⟩ := hb'
 rcases ht with e | e | e | e
 ·exact h1 e
 ·exact h2 e
 ·exact h3 e
 ·exact h4 e
theorem Q0u.below (h : Q0u B w w') (hB : B ≤ w.heap.size) : Below B w w' := Turn.below h hB fun j hj => hj.1
theorem Q0u.box {g : Nat} {cs : Array Value} (hb : Blk w g 117 cs) (hg : B ≤ g) (i : Nat) (u : Value) : Q0u B w (w.setCell ⟨g, i, none⟩ u) :=
 (Turn.set w ⟨g, i, none⟩ u).mono fun j e => by
  obtain rfl : j = g := e
  exact ⟨hg, _, _, hb, .inl rfl⟩
theorem Qoo {e : TypeId} {s n : Nat} {v : Value} {xs : List Value} (h : w.ownsRow B e s v n xs) (he : e = 2 ∨ e = 71 ∨ e = 98) {j : Nat} (hj : v.ownBlock = some j) : Lo B w j := by
 rcases h.2 with ⟨rfl, -⟩ | ⟨k, cap, cur, rfl, h1, h2, -⟩
 ·cases hj
 ·obtain rfl : k = j := by simpa [Value.ownBlock] using hj
  exact ⟨h1, e, cur, h2, .inr he⟩
theorem Q0u.grown {e : TypeId} {s n : Nat} {v : Value} {xs : List Value} (h : w.ownsRow B e s v n xs) (he : e = 2 ∨ e = 71 ∨ e = 98) (hg : w.grownBy w' v.ownBlock) : Q0u B w w' :=
 (Turn.grown hg).mono fun j hj => Qoo h he hj
end
end Go.Proofs.Yteiknefajlocoaa

namespace Go.Proofs.Yteiknefajlocoaa
open Go.RowKit
set_option linter.unusedVariables false
set_option linter.unusedSimpArgs false
structure PlOk (p : Q01) (n : Nat) (P : Plc) : Prop where
 len : P.regs.length = 10
 r64 : Q1q P.regs
 wlen : P.words.length = Q0g p
 w64 : Q1q P.words
 plen : P.past.length = Q0g p
 past : ∀ l ∈ P.past, l.length ≤ n ∧ Q1q l
 at_ : P.at_ ≤ p.code.length
section
variable {p : Q01} {n m k : Nat} {P : Plc}
theorem PlOk.mono (h : PlOk p n P) (hn : n ≤ m) : PlOk p m P := ⟨h.len, h.r64, h.wlen, h.w64, h.plen, fun l hl => ⟨Nat.le_trans (h.past l hl).1 hn, (h.past l hl).2⟩, h.at_⟩
theorem PlOk.goTo (h : PlOk p n P) (hk : k ≤ p.code.length) : PlOk p n { P with at_ := k } := ⟨h.len, h.r64, h.wlen, h.w64, h.plen, h.past, hk⟩
theorem PlOk.reg (h : PlOk p n P) (a : Int) {v : Int} (hv : R64 v) : PlOk p n { P with regs := rset P.regs a v } := ⟨by rw [Q5n]; exact h.len, h.r64.rset a hv, h.wlen, h.w64, h.plen, h.past, h.at_⟩
theorem PlOk.plain (h : PlOk p n P) {i : LIns} (hi : i.fits) : PlOk p n { P with regs := Q1f P.regs i } := ⟨by rw [Q9p]; exact h.len, Qsa h.r64 hi.2.2.2.2, h.wlen, h.w64, h.plen, h.past, h.at_⟩
theorem PlOk.row (h : PlOk p n P) (x : Nat) : (P.past.getD x []).length ≤ n ∧ Q1q (P.past.getD x []) := by
 by_cases hx : x < P.past.length
 ·have e : P.past.getD x [] = P.past[x] := by simp [hx]
  rw [e]
  exact h.past _ (List.getElem_mem hx)
 ·rw [List.getD_eq_getElem?_getD, List.getElem?_eq_none (by omega)]
  exact ⟨Nat.zero_le _, fun j => by simp [R64]⟩
theorem PlOk.put (h : PlOk p n P) (x : Nat) {v : Int} (hv : R64 v) : PlOk p (n + 1) { P with past := P.past.set x (P.past.getD x [] ++ [P.words.getD x 0]), words := P.words.set x v } := by
 refine ⟨h.len, h.r64, by simp [h.wlen], h.w64.set x hv, by simp [h.plen], fun l hl => ?_, h.at_⟩
 rcases List.mem_or_eq_of_mem_set hl with e | rfl
 ·exact ⟨by have := (h.past l e).1; omega, (h.past l e).2⟩
 ·obtain ⟨h1, h2⟩ := h.row x
  exact ⟨by rw [List.length_append]; simp only [List.length_cons, List.length_nil]; omega, h2.snoc (h.w64 x)⟩
end
def bN (b : Bool) : Nat := if b then 1 else 0
structure SMid (p : Q01) (n : Nat) (S : Spc) : Prop where
 pl : PlOk p n S.pl
 back : S.ahead = true → PlOk p n S.back
 s0 : -1 ≤ S.since
 s1 : S.since ≤ 12
 s2 : S.ahead = true → S.since ≤ 11
section
variable {p : Q01} {n m k : Nat} {S : Spc}
theorem SMid.mono (h : SMid p n S) (hn : n ≤ m) : SMid p m S := ⟨h.pl.mono hn, fun e => (h.back e).mono hn, h.s0, h.s1, h.s2⟩
theorem SMid.goTo (h : SMid p n S) (hk : k ≤ p.code.length) : SMid p n (S.goTo k) := ⟨h.pl.goTo hk, h.back, h.s0, h.s1, h.s2⟩
theorem SMid.chosen (h : SMid p n S) : SMid p n S.chosen := ⟨h.pl, h.back, h.s0, h.s1, h.s2⟩
theorem SMid.put_ (h : SMid p n S) (a : Int) {v : Int} (hv : R64 v) : SMid p n (S.put_ a v) := ⟨h.pl.reg a hv, h.back, h.s0, h.s1, h.s2⟩
theorem SMid.leave (h : SMid p n S) : SMid p n S.leave := by
 unfold Spc.leave
 cases e : S.ahead
 ·exact ⟨h.pl, fun _ => h.pl, by simp, by simp, by simp⟩
 ·exact h
theorem SMid.seen (h : SMid p n S) (l : List LSee) : SMid p n { S with seen := l } := ⟨h.pl, h.back, h.s0, h.s1, h.s2⟩
theorem SMid.steps (h : SMid p n S) (l : List LSee) (j : Nat) : SMid p n { S with steps := j, seen := l } := ⟨h.pl, h.back, h.s0, h.s1, h.s2⟩
theorem SMid.returns (h : SMid p n S) (ha : S.ahead = true) : SMid p n S.returns := ⟨h.back ha, fun e => by simp [Spc.returns] at e, h.s0, h.s1, fun e => by simp [Spc.returns] at e⟩
theorem SMid.fault (h : SMid p n S) (x : Int) : SMid p n { S with fin := x } := ⟨h.pl, h.back, h.s0, h.s1, h.s2⟩
end
theorem Q7d (b : Bool) : bN b ≤ 1 := by cases b <;> decide
theorem Qo4 {p : Q01} {n : Nat} {S : Spc} {i : LIns} (h : SMid p n S) (hlt : S.pl.at_ < p.code.length) (hok : Q00 p 10 i = true) (hi : i.fits) : SMid p (n + 1) (doS p i S) := by
 have hj := (Q2t hok).2.2.2.2.2.2.2.2.2.1
 have hat : S.pl.at_ + 1 ≤ p.code.length := hlt
 unfold doS
 by_cases h7 : i.op = 7
 ·rw [if_pos h7]
  have := (hj (.inl h7)).2
  exact (h.goTo (by omega)).mono (Nat.le_succ _)
 rw [if_neg h7]
 by_cases h8 : i.op = 8
 ·rw [if_pos h8]
  have := (hj (.inr h8)).2
  have hn : i.n.toNat ≤ p.code.length := by omega
  refine SMid.mono ?_ (Nat.le_succ n)
  unfold Q5r
  simp only
  split
  ·exact (h.goTo (by split <;> assumption)).chosen
  ·exact ((h.goTo (by split <;> assumption)).chosen.leave).goTo (by split <;> assumption)
 rw [if_neg h8]
 by_cases h9 : i.op = 9
 ·rw [if_pos h9]
  refine SMid.mono ?_ (Nat.le_succ n)
  split
  ·exact h.goTo hat
  ·exact ⟨h.pl, h.back, h.s0, h.s1, h.s2⟩
 rw [if_neg h9]
 by_cases h12 : i.op = 12
 ·rw [if_pos h12]
  exact (h.goTo hat).mono (Nat.le_succ _)
 rw [if_neg h12]
 split
 ·unfold Q2v
  simp only
  split
  ·exact (h.fault 2).mono (Nat.le_succ _)
  ·split
   ·split
    ·exact ⟨(h.pl.put _ (h.pl.r64 _)).goTo (by exact hat), fun e => (h.back e).mono (Nat.le_succ _), h.s0, h.s1, h.s2⟩
    ·refine SMid.mono ?_ (Nat.le_succ n)
     unfold Q4a
     simp only
     have h1 := ((h.seen (S.seen ++ [⟨2, wrap64 (↑(Q1k p i.c.toNat) + Q1g S.pl.regs i), putN i⟩])).goTo (k := S.pl.at_ + 1) hat).chosen.put_ i.a (h.pl.w64 (wrap64 (↑(Q1k p i.c.toNat) + Q1g S.pl.regs i)).toNat)
     split
     ·exact h1.leave.put_ i.a ((h.pl.row _).2 _)
     ·exact h1
   ·have h1 := (h.seen (S.seen ++ [⟨2, wrap64 (↑(Q1k p i.c.toNat) + Q1g S.pl.regs i), putN i⟩])).goTo (k := S.pl.at_ + 1) hat
    split
    ·exact h1.mono (Nat.le_succ _)
    ·exact (h1.put_ i.a Q7l).mono (Nat.le_succ _)
 ·exact ⟨((h.pl.plain hi).goTo (k := S.pl.at_ + 1) hat).mono (Nat.le_succ _), fun e => (h.back e).mono (Nat.le_succ _), h.s0, h.s1, h.s2⟩
theorem Qe0 (p : Q01) (i : LIns) (S : Spc) : (doS p i S).seen.length + bN (doS p i S).ahead ≤ S.seen.length + bN S.ahead + 2 := by
 unfold doS
 split
 ·simp only [Spc.goTo]; omega
 split
 ·unfold Q5r
  simp only
  split
  ·simp only [Spc.goTo, Spc.chosen]; omega
  ·simp only [Spc.goTo, Qfw, Spc.chosen]
   refine Nat.le_trans (Nat.add_le_add_left (Q7d _) _) ?_
   omega
 split
 ·split
  ·simp only [Spc.goTo]; omega
  ·simp only; omega
 split
 ·simp only [Spc.goTo]; omega
 split
 ·unfold Q2v
  simp only
  split
  ·simp only; omega
  ·split
   ·split
    ·simp only [List.length_append, List.length_cons, List.length_nil]; omega
    ·unfold Q4a
     simp only
     split
     ·simp only [Spc.put_, Qfw, Spc.chosen, Spc.goTo, List.length_append, List.length_cons, List.length_nil]
      refine Nat.le_trans (Nat.add_le_add_left (Q7d _) _) ?_
      omega
     ·simp only [Spc.put_, Spc.chosen, Spc.goTo, List.length_append, List.length_cons, List.length_nil]; omega
   ·split
    ·simp only [Spc.goTo, List.length_append, List.length_cons, List.length_nil]; omega
    ·simp only [Spc.put_, Spc.goTo, List.length_append, List.length_cons, List.length_nil]; omega
 ·have : (Q2e S.pl.regs i).length ≤ 1 := by unfold Q2e; split <;> simp
  simp only [List.length_append]
  omega
structure SOk (p : Q01) (S : Spc) : Prop where
 mid : SMid p S.steps S
 seen : S.seen.length + bN S.ahead ≤ 4 * S.steps + 1
theorem Qdv {p : Q01} {ws script : List Int} (hl : ws.length = Q0g p) (h64 : Q1q ws) : SOk p (Q16 ws script) :=
 ⟨⟨⟨by simp [Q16], Qd5 (fun x hx => by simp only [Q16, List.mem_replicate] at hx; rw [hx.2]; exact Q7l), hl, h64, by simp [Q16, hl], fun l hl => by
   simp only [Q16, List.mem_replicate] at hl
   rw [hl.2]
   exact ⟨Nat.zero_le _, fun j => by simp [R64]⟩, by simp [Q16]⟩, fun e => by simp [Q16] at e, by simp [Q16], by simp [Q16], fun e => by simp [Q16] at e⟩, by simp [Q16, bN]⟩
theorem SOk.up {p : Q01} {S : Spc} (h : SOk p S) (ha : S.ahead = true) : SOk p S.returns :=
 ⟨h.mid.returns ha, by
  have := h.seen
  rw [ha] at this
  simp only [Spc.returns, List.length_append, List.length_cons, List.length_nil, bN, if_true] at this ⊢
  simp
  omega⟩
def begS (S : Spc) : Spc := { S with steps := S.steps + 1, seen := S.seen ++ [⟨1, S.pl.at_, 0⟩] }
def Q2n (S : Spc) : Spc := { S with since := S.since + 1 }
theorem Qdo (p : Q01) (i : LIns) (S : Spc) : Q1v p i S = if (doS p i (begS S)).ahead then (if Q2s i S || decide ((Q2n (doS p i (begS S))).since = 12) then (Q2n (doS p i (begS S))).returns else Q2n (doS p i (begS S))) else doS p i (begS S) := rfl
theorem SOk.mid2 {p : Q01} {S : Spc} {i : LIns} (h : SOk p S) (hlt : S.pl.at_ < p.code.length) (hok : Q00 p 10 i = true) (hi : i.fits) : SMid p (S.steps + 1) (doS p i (begS S)) := Qo4 (h.mid.steps _ _) hlt hok hi
theorem SOk.step {p : Q01} {S : Spc} {i : LIns} (h : SOk p S) (hlt : S.pl.at_ < p.code.length) (hok : Q00 p 10 i = true) (hi : i.fits) : SOk p (Q1v p i S) := by
 have h1 := h.mid2 hlt hok hi
 have h2 := Qe0 p i (begS S)
 have h3 := Qhc p i (begS S)
 have h4 := h.seen
 have h5 : (begS S).seen.length = S.seen.length + 1 := by simp [begS]
 have h6 : (begS S).ahead = S.ahead := rfl
 have h7 : (begS S).steps = S.steps + 1 := rfl
 rw [h5, h6] at h2
 rw [h7] at h3
 rw [Qdo]
 generalize doS p i (begS S) = T at *
 split
 ·rename_i ha
  rw [ha] at h2
  have h8 : bN true = 1 := rfl
  rw [h8] at h2
  have hm : ∀ (hs : T.since + 1 ≤ 11), SMid p (S.steps + 1) (Q2n T) := fun hs => ⟨h1.pl, h1.back, by have := h1.s0; simp only [Q2n]; omega, by simp only [Q2n]; omega, fun _ => hs⟩
  split
  ·have hr : SMid p (S.steps + 1) (Q2n T).returns := ⟨h1.back ha, fun e => by simp [Spc.returns] at e, by have := h1.s0; simp only [Q2n, Spc.returns]; omega, by have := h1.s2 ha; simp only [Q2n, Spc.returns]; omega, fun e => by simp [Spc.returns] at e⟩
   refine ⟨?_, ?_⟩
   ·show SMid p T.steps _
    rw [h3]; exact hr
   ·show (T.seen ++ [_]).length + bN false ≤ 4 * T.steps + 1
    rw [h3, List.length_append]
    simp only [List.length_cons, List.length_nil, bN]
    simp
    omega
  ·rename_i hne
   simp only [Bool.or_eq_true, decide_eq_true_eq, not_or] at hne
   have hs := h1.s2 ha
   have hs2 : T.since + 1 ≠ 12 := hne.2
   refine ⟨?_, ?_⟩
   ·show SMid p T.steps _
    rw [h3]; exact hm (by omega)
   ·show T.seen.length + bN T.ahead ≤ 4 * T.steps + 1
    rw [h3, ha, h8]
    omega
 ·exact ⟨by rw [h3]; exact h1, by rw [h3]; omega⟩
theorem Qkk {p : Q01} {S : Spc} {k : Nat} (hf : S.fin ≠ 0) : runS p k S = S := by
 cases k with
 | zero => rfl
 | succ k => rw [runS, if_pos hf]
theorem Qkj {p : Q01} {S : Spc} {k : Nat} (hk : 0 < k) (hf : S.fin = 0) (ha : S.ahead = true) (hat : p.code.length ≤ S.pl.at_) : runS p k S = runS p k S.returns := by
 obtain ⟨j, rfl⟩ : ∃ j, k = j + 1 := ⟨k - 1, by omega⟩
 have e1 : upS p S = S.returns := by unfold upS; rw [if_pos ⟨ha, hat⟩]
 have e2 : upS p S.returns = S.returns := by unfold upS; rw [if_neg (by simp [Spc.returns])]
 have hf2 : S.returns.fin = 0 := hf
 rw [runS, runS, if_neg (by omega), if_neg (by omega), e1, e2]
theorem Qkl {p : Q01} {S : Spc} {k : Nat} (hk : 0 < k) (hf : S.fin = 0) (ha : S.ahead = false) (hat : p.code.length ≤ S.pl.at_) : runS p k S = { S with fin := 2 } := by
 obtain ⟨j, rfl⟩ : ∃ j, k = j + 1 := ⟨k - 1, by omega⟩
 have e1 : upS p S = S := by unfold upS; rw [if_neg (by simp [ha])]
 have e2 : p.code[S.pl.at_]? = none := List.getElem?_eq_none hat
 rw [runS, if_neg (by omega), e1, e2]
theorem Qkm {p : Q01} {S : Spc} {k : Nat} {i : LIns} (hk : 0 < k) (hf : S.fin = 0) (hi : p.code[S.pl.at_]? = some i) : runS p k S = runS p (k - 1) (Q1v p i S) := by
 obtain ⟨j, rfl⟩ : ∃ j, k = j + 1 := ⟨k - 1, by omega⟩
 have hlt := (List.getElem?_eq_some_iff.1 hi).1
 have e1 : upS p S = S := by unfold upS; rw [if_neg (by omega)]
 rw [runS, if_neg (by omega), e1, hi]
 rfl
end Go.Proofs.Yteiknefajlocoaa

namespace Go.Proofs.Yteiknefajlocoaa
open Go.ChangeShapes Go.WideShapes Go.ChangeAt Go.RowKit
set_option linter.unusedVariables false
set_option linter.unusedSimpArgs false
structure RV where
 (vR vW vP vS vX bR bW bP : Value)
 (vs bs : List Value)
def Q29 (vR vW : Value) (vs : List Value) (P : Plc) : List (Value × List Int) := (vR, P.regs) :: (vW, P.words) :: vs.zip P.past
def Q31 (V : RV) (S : Spc) : List (Value × List Int) := Q29 V.vR V.vW V.vs S.pl ++ (if S.ahead = true then Q29 V.bR V.bW V.bs S.back else [])
def runL (vG vC : Value) (V : RV) (S : Spc) : List Value :=
 [V.vR, V.vW, V.vP, .int .i64 S.pl.at_, vG, vC, .int .i64 S.fin, .int .i64 S.value, .int .i64 S.steps, V.vS, .slice none 0 0, V.vX, .bool S.ahead, .int .i64 S.since, V.bR, V.bW, V.bP, .int .i64 S.back.at_]
structure Core (wB w : World) (V : RV) (S : Spc) : Prop where
 fam : Fam w wB.heap.size (Q31 V S)
 out : w.ownsRow wB.heap.size 71 1 V.vP S.pl.past.length V.vs
 bout : S.ahead = true → w.ownsRow wB.heap.size 71 1 V.bP S.back.past.length V.bs ∧ ∀ k, V.vP.ownBlock = some k → V.bP.ownBlock ≠ some k
 sn : w.ownsRow wB.heap.size 98 3 V.vS S.seen.length (S.seen.flatMap Q4z)
 scr : Q49 wB V.vX S.script
 ext : Ext wB w
structure RSt (wB w : World) (g : Nat) (vG vC : Value) (V : RV) (S : Spc) : Prop where
 box : Blk w g 117 (runL vG vC V S).toArray
 core : Core wB w V S
 hg : wB.heap.size ≤ g
section
variable {wB w w' : World} {g : Nat} {vG vC : Value} {V V' : RV} {S S' : Spc}
theorem Core.extend (h : Core wB w V S) (hx : Ext w w') : Core wB w' V S := ⟨h.fam.ext hx, Q34 h.out hx, fun e => ⟨Q34 (h.bout e).1 hx, (h.bout e).2⟩, Q34 h.sn hx, h.scr, h.ext.trans hx⟩
theorem RSt.extend (h : RSt wB w g vG vC V S) (hx : Ext w w') : RSt wB w' g vG vC V S := ⟨h.box.ext hx, h.core.extend hx, h.hg⟩
theorem Core.box (h : Core wB w V S) {cs : Array Value} (hb : Blk w g 117 cs) (hg : wB.heap.size ≤ g) (i : Nat) (u : Value) : Core wB (w.setCell ⟨g, i, none⟩ u) V S :=
 ⟨h.fam.far hb (by decide) i u, Q1e (p := ⟨g, i, none⟩) h.out (Q09 h.out hb (by decide)) u, fun e => ⟨Q1e (p := ⟨g, i, none⟩) (h.bout e).1 (Q09 (h.bout e).1 hb (by decide)) u, (h.bout e).2⟩,
  Q1e (p := ⟨g, i, none⟩) h.sn (Q09 h.sn hb (by decide)) u, h.scr, h.ext.setCell hg u⟩
theorem RSt.put (h : RSt wB w g vG vC V S) (i : Nat) (u : Value) (hc : (runL vG vC V S).toArray.setIfInBounds i u = (runL vG vC V' S').toArray) (hk : ∀ w', Core wB w' V S → Core wB w' V' S') : RSt wB (w.setCell ⟨g, i, none⟩ u) g vG vC V' S' :=
 ⟨by rw [← hc]; exact h.box.set_ i u, hk _ (h.core.box h.box h.hg i u), h.hg⟩
theorem RSt.stays (h : RSt wB w g vG vC V S) (i : Nat) (u : Value) : Q0u wB.heap.size w (w.setCell ⟨g, i, none⟩ u) := Q0u.box h.box h.hg i u
theorem RSt.at__ (h : RSt wB w g vG vC V S) (k : Nat) : RSt wB (w.setCell ⟨g, 3, none⟩ (.int .i64 (k : Int))) g vG vC V (S.goTo k) := h.put 3 _ rfl fun _ c => ⟨c.fam, c.out, c.bout, c.sn, c.scr, c.ext⟩
theorem RSt.fin_ (h : RSt wB w g vG vC V S) (x : Int) : RSt wB (w.setCell ⟨g, 6, none⟩ (.int .i64 x)) g vG vC V { S with fin := x } := h.put 6 _ rfl fun _ c => ⟨c.fam, c.out, c.bout, c.sn, c.scr, c.ext⟩
theorem RSt.value_ (h : RSt wB w g vG vC V S) (x : Int) : RSt wB (w.setCell ⟨g, 7, none⟩ (.int .i64 x)) g vG vC V { S with value := x } := h.put 7 _ rfl fun _ c => ⟨c.fam, c.out, c.bout, c.sn, c.scr, c.ext⟩
theorem RSt.steps_ (h : RSt wB w g vG vC V S) (k : Nat) : RSt wB (w.setCell ⟨g, 8, none⟩ (.int .i64 (k : Int))) g vG vC V { S with steps := k } := h.put 8 _ rfl fun _ c => ⟨c.fam, c.out, c.bout, c.sn, c.scr, c.ext⟩
theorem RSt.since_ (h : RSt wB w g vG vC V S) (x : Int) : RSt wB (w.setCell ⟨g, 13, none⟩ (.int .i64 x)) g vG vC V { S with since := x } := h.put 13 _ rfl fun _ c => ⟨c.fam, c.out, c.bout, c.sn, c.scr, c.ext⟩
theorem RSt.script_ (h : RSt wB w g vG vC V S) {u : Value} {l : List Int} (hu : Q49 wB u l) : RSt wB (w.setCell ⟨g, 11, none⟩ u) g vG vC { V with vX := u } { S with script := l } := h.put 11 _ rfl fun _ c => ⟨c.fam, c.out, c.bout, c.sn, hu, c.ext⟩
theorem Core.show_ (c : Core wB w V S) (hg : w.grownBy w' V.vS.ownBlock) {u : Value} {s : List LSee} (ho : w'.ownsRow wB.heap.size 98 3 u s.length (s.flatMap Q4z)) : Core wB w' { V with vS := u } { S with seen := s } :=
 ⟨c.fam.other c.sn (by decide) hg, Q22 c.out hg (fun k hk => Q1w c.sn c.out (by decide) k hk), fun e => ⟨Q22 (c.bout e).1 hg (fun k hk => Q1w c.sn (c.bout e).1 (by decide) k hk), (c.bout e).2⟩, ho, c.scr,
  Q4q c.ext hg c.ext.size (Q3r c.sn)⟩
theorem RSt.show_ (h : RSt wB w g vG vC V S) (hg : w.grownBy w' V.vS.ownBlock) {u : Value} {s : List LSee} (ho : w'.ownsRow wB.heap.size 98 3 u s.length (s.flatMap Q4z)) :
  RSt wB (w'.setCell ⟨g, 9, none⟩ u) g vG vC { V with vS := u } { S with seen := s } := by
 have hb := h.box.grown hg (Q09 h.core.sn h.box (by decide))
 exact ⟨hb.set_ 9 u, (h.core.show_ hg ho).box hb h.hg 9 u, h.hg⟩
theorem RSt.showStays (h : RSt wB w g vG vC V S) (hg : w.grownBy w' V.vS.ownBlock) (u : Value) : Q0u wB.heap.size w (w'.setCell ⟨g, 9, none⟩ u) := by
 have hb := h.box.grown hg (Q09 h.core.sn h.box (by decide))
 exact (Q0u.grown h.core.sn (.inr (.inr rfl)) hg).trans (Q0u.box hb h.hg 9 u)
theorem Q6s (V : RV) (S : Spc) : (Q31 V S)[0]? = some (V.vR, S.pl.regs) := rfl
theorem Q5w (V : RV) (S : Spc) : (Q31 V S)[1]? = some (V.vW, S.pl.words) := rfl
theorem Qb4 (V : RV) (S : Spc) {n : Nat} (h1 : n < V.vs.length) (h2 : n < S.pl.past.length) : (Q31 V S)[2 + n]? = some (V.vs.getD n undef, S.pl.past.getD n []) := by
 unfold Q31 Q29
 rw [List.getElem?_append_left (by simp; omega), show 2 + n = n + 1 + 1 by omega, List.getElem?_cons_succ, List.getElem?_cons_succ]
 simp [List.getElem?_zip_eq_some, h1, h2]
theorem Qku (V : RV) (S : Spc) (u : Value) (l : List Int) : (Q31 V S).set 0 (u, l) = Q31 { V with vR := u } { S with pl := { S.pl with regs := l } } := rfl
theorem Qe3 (V : RV) (S : Spc) (u : Value) (l : List Int) : (Q31 V S).set 1 (u, l) = Q31 { V with vW := u } { S with pl := { S.pl with words := l } } := rfl
theorem Qd8 {α β : Type} : ∀ (a : List α) (b : List β) (n : Nat) (x : α) (y : β), (a.zip b).set n (x, y) = (a.set n x).zip (b.set n y)
 | [], _, _, _, _ => by simp
 | _ :: _, [], _, _, _ => by simp
 | _ :: _, _ :: _, 0, _, _ => rfl
 | _ :: a, _ :: b, n + 1, x, y => by simp [Qd8 a b n x y]
theorem Qkt (V : RV) (S : Spc) {n : Nat} (h1 : n < V.vs.length) (h2 : n < S.pl.past.length) (u : Value) (l : List Int) :
  (Q31 V S).set (2 + n) (u, l) = Q31 { V with vs := V.vs.set n u } { S with pl := { S.pl with past := S.pl.past.set n l } } := by
 unfold Q31 Q29
 rw [List.set_append_left _ _ (by simp; omega), show 2 + n = n + 1 + 1 by omega, List.set_cons_succ, List.set_cons_succ, Qd8]
theorem Core.regs (c : Core wB w V S) (hg : w.grownBy w' V.vR.ownBlock) {l : List Int} (ho : w'.ownsRow wB.heap.size 2 1 V.vR l.length (l.map (Value.int .i64))) : Core wB w' V { S with pl := { S.pl with regs := l } } := by
 have hr := c.fam.at_ (Q6s V S)
 refine ⟨?_, Q22 c.out hg (fun k hk => Q1w hr c.out (by decide) k hk), fun e => ⟨Q22 (c.bout e).1 hg (fun k hk => Q1w hr (c.bout e).1 (by decide) k hk), (c.bout e).2⟩, Q22 c.sn hg (fun k hk => Q1w hr c.sn (by decide) k hk), c.scr,
  Q4q c.ext hg c.ext.size (Q3r hr)⟩
 have := c.fam.set_ (Q6s V S) hg ho (fun k hk => .inl hk)
 rw [Qku] at this
 exact this
theorem RSt.regs (h : RSt wB w g vG vC V S) (hg : w.grownBy w' V.vR.ownBlock) {l : List Int} (ho : w'.ownsRow wB.heap.size 2 1 V.vR l.length (l.map (Value.int .i64))) : RSt wB w' g vG vC V { S with pl := { S.pl with regs := l } } :=
 ⟨h.box.grown hg (Q09 (h.core.fam.at_ (Q6s V S)) h.box (by decide)), h.core.regs hg ho, h.hg⟩
theorem RSt.regsStays (h : RSt wB w g vG vC V S) (hg : w.grownBy w' V.vR.ownBlock) : Q0u wB.heap.size w w' := Q0u.grown (h.core.fam.at_ (Q6s V S)) (.inl rfl) hg
theorem RSt.reg (h : RSt wB w g vG vC V S) {k n cap x : Nat} (hv : V.vR = .slice (some ⟨k, 0, none⟩) n cap) (z : Int) : RSt wB (w.setCell ⟨k, x, none⟩ (.int .i64 z)) g vG vC V { S with pl := { S.pl with regs := S.pl.regs.set x z } } ∧ Q0u wB.heap.size w (w.setCell ⟨k, x, none⟩ (.int .i64 z)) := by
 have hr := h.core.fam.at_ (Q6s V S)
 have hg := Q8e w ⟨k, x, none⟩ (.int .i64 z)
 have e : V.vR.ownBlock = some k := by rw [hv]; rfl
 rw [← e] at hg
 refine ⟨h.regs hg ?_, h.regsStays hg⟩
 rw [hv] at hr ⊢
 obtain rfl : n = S.pl.regs.length := by
  rcases hr.2 with ⟨h0, -⟩ | ⟨g, c, cur, hv, -⟩
  ·cases h0
  ·simp only [Value.slice.injEq] at hv
   exact hv.2.1
 have := (hr.stored x (.int .i64 z)).1
 rw [List.length_set, List.map_set]
 exact this
theorem RSt.word (h : RSt wB w g vG vC V S) {k n cap x : Nat} (hv : V.vW = .slice (some ⟨k, 0, none⟩) n cap) (z : Int) : RSt wB (w.setCell ⟨k, x, none⟩ (.int .i64 z)) g vG vC V { S with pl := { S.pl with words := S.pl.words.set x z } } ∧ Q0u wB.heap.size w (w.setCell ⟨k, x, none⟩ (.int .i64 z)) := by
 have c := h.core
 have hr := c.fam.at_ (Q5w V S)
 have hg := Q8e w ⟨k, x, none⟩ (.int .i64 z)
 have e : V.vW.ownBlock = some k := by rw [hv]; rfl
 rw [← e] at hg
 refine ⟨⟨h.box.grown hg (Q09 hr h.box (by decide)), ⟨?_, Q22 c.out hg (fun k hk => Q1w hr c.out (by decide) k hk), fun e => ⟨Q22 (c.bout e).1 hg (fun k hk => Q1w hr (c.bout e).1 (by decide) k hk), (c.bout e).2⟩, Q22 c.sn hg (fun k hk => Q1w hr c.sn (by decide) k hk), c.scr,
  Q4q c.ext hg c.ext.size (Q3r hr)⟩, h.hg⟩, Q0u.grown hr (.inl rfl) hg⟩
 have hi := Q5w V S
 rw [hv] at hi
 have := c.fam.put hi (x := x) z
 rw [← hv, Qe3] at this
 exact this
theorem Core.past (c : Core wB w V S) {n : Nat} (h1 : n < S.pl.past.length) {u : Value} {l : List Int} (hg : w.grownBy w' (V.vs.getD n undef).ownBlock) (ho : w'.ownsRow wB.heap.size 2 1 u l.length (l.map (Value.int .i64)))
  (hat : ∀ k, u.ownBlock = some k → (V.vs.getD n undef).ownBlock = some k ∨ w.heap.size ≤ k) {kp cap : Nat} (hv : V.vP = .slice (some ⟨kp, 0, none⟩) S.pl.past.length cap) :
  Core wB (w'.setCell ⟨kp, n, none⟩ u) { V with vs := V.vs.set n u } { S with pl := { S.pl with past := S.pl.past.set n l } } ∧ Q0u wB.heap.size w (w'.setCell ⟨kp, n, none⟩ u) := by
 have hvl : V.vs.length = S.pl.past.length := by have := c.out.1; omega
 have hi := Qb4 V S (n := n) (by omega) h1
 have hr := c.fam.at_ hi
 have hf := c.fam.set_ hi hg ho hat
 rw [Qkt V S (by omega) h1] at hf
 have ho1 := Q22 c.out hg (fun k hk => Q1w hr c.out (by decide) k hk)
 have hs1 := Q22 c.sn hg (fun k hk => Q1w hr c.sn (by decide) k hk)
 have hx1 : Ext wB w' := Q4q c.ext hg c.ext.size (Q3r hr)
 have hset := Q8e w' ⟨kp, n, none⟩ u
 have e : V.vP.ownBlock = some kp := by rw [hv]; rfl
 rw [← e] at hset
 refine ⟨⟨hf.other ho1 (by decide) hset, ?_, fun ea => ?_, Q22 hs1 hset (fun k hk => Q1w ho1 hs1 (by decide) k hk), c.scr, Q4q hx1 hset hx1.size (Q3r ho1)⟩, (Q0u.grown hr (.inl rfl) hg).trans (Q0u.grown ho1 (.inr (.inl rfl)) hset)⟩
 ·rw [hv] at ho1 ⊢
  have := (ho1.stored n u).1
  simp only [List.length_set]
  exact this
 ·obtain ⟨h3, h4⟩ := c.bout ea
  have h5 := Q22 h3 hg (fun k hk => Q1w hr h3 (by decide) k hk)
  exact ⟨Q22 h5 hset (fun k hk => h4 k hk), h4⟩
end
end Go.Proofs.Yteiknefajlocoaa
