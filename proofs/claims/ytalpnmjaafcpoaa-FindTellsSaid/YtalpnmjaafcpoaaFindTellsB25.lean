/- Laid together from: Play1, Play2, Play3. -/
import Derived.Test.YtalpnmjaafcpoaaFindTellsB23
import Derived.Test.YtalpnmjaafcpoaaFindTellsB24

namespace Go.Proofs.Ytalpnmjaafcpoaa
open Go.ChangeShapes Go.WideShapes Go.ChangeAt Go.RowKit
set_option linter.unusedVariables false
set_option linter.unusedSimpArgs false
structure RV where
 (vR vW vP vS vX bR bW bP : Value)
 (vs bs : List Value)
def Q1l (vR vW : Value) (vs : List Value) (P : Plc) : List (Value × List Int) := (vR, P.regs) :: (vW, P.words) :: vs.zip P.past
def Q1z (V : RV) (S : Spc) : List (Value × List Int) := Q1l V.vR V.vW V.vs S.pl ++ (if S.ahead = true then Q1l V.bR V.bW V.bs S.back else [])
def runL (vG vC : Value) (V : RV) (S : Spc) : List Value :=
 [V.vR, V.vW, V.vP, .int .i64 S.pl.at_, vG, vC, .int .i64 S.fin, .int .i64 S.value, .int .i64 S.steps, V.vS, .slice none 0 0, V.vX, .bool S.ahead, .int .i64 S.since, V.bR, V.bW, V.bP, .int .i64 S.back.at_]
structure Core (wB w : World) (V : RV) (S : Spc) : Prop where
 fam : Fam w wB.heap.size (Q1z V S)
 out : w.ownsRow wB.heap.size 52 1 V.vP S.pl.past.length V.vs
 bout : S.ahead = true → w.ownsRow wB.heap.size 52 1 V.bP S.back.past.length V.bs ∧ ∀ k, V.vP.ownBlock = some k → V.bP.ownBlock ≠ some k
 sn : w.ownsRow wB.heap.size 79 3 V.vS S.seen.length (S.seen.flatMap Q2g)
 scr : Q1i wB V.vX S.script
 ext : Ext wB w
structure RSt (wB w : World) (g : Nat) (vG vC : Value) (V : RV) (S : Spc) : Prop where
 box : Blk w g 67 (runL vG vC V S).toArray
 core : Core wB w V S
 hg : wB.heap.size ≤ g
section
variable {wB w w' : World} {g : Nat} {vG vC : Value} {V V' : RV} {S S' : Spc}
theorem Core.extend (h : Core wB w V S) (hx : Ext w w') : Core wB w' V S := ⟨h.fam.ext hx, Q1m h.out hx, fun e => ⟨Q1m (h.bout e).1 hx, (h.bout e).2⟩, Q1m h.sn hx, h.scr, h.ext.trans hx⟩
theorem RSt.extend (h : RSt wB w g vG vC V S) (hx : Ext w w') : RSt wB w' g vG vC V S := ⟨h.box.ext hx, h.core.extend hx, h.hg⟩
theorem Core.box (h : Core wB w V S) {cs : Array Value} (hb : Blk w g 67 cs) (hg : wB.heap.size ≤ g) (i : Nat) (u : Value) : Core wB (w.setCell ⟨g, i, none⟩ u) V S :=
 ⟨h.fam.far hb (by decide) i u, Q0o (p := ⟨g, i, none⟩) h.out (Q06 h.out hb (by decide)) u, fun e => ⟨Q0o (p := ⟨g, i, none⟩) (h.bout e).1 (Q06 (h.bout e).1 hb (by decide)) u, (h.bout e).2⟩,
  Q0o (p := ⟨g, i, none⟩) h.sn (Q06 h.sn hb (by decide)) u, h.scr, h.ext.setCell hg u⟩
theorem RSt.put (h : RSt wB w g vG vC V S) (i : Nat) (u : Value) (hc : (runL vG vC V S).toArray.setIfInBounds i u = (runL vG vC V' S').toArray) (hk : ∀ w', Core wB w' V S → Core wB w' V' S') : RSt wB (w.setCell ⟨g, i, none⟩ u) g vG vC V' S' :=
 ⟨by rw [← hc]; exact h.box.set_ i u, hk _ (h.core.box h.box h.hg i u), h.hg⟩
theorem RSt.stays (h : RSt wB w g vG vC V S) (i : Nat) (u : Value) : Q03 wB.heap.size w (w.setCell ⟨g, i, none⟩ u) := Q03.box h.box h.hg i u
theorem RSt.at__ (h : RSt wB w g vG vC V S) (k : Nat) : RSt wB (w.setCell ⟨g, 3, none⟩ (.int .i64 (k : Int))) g vG vC V (S.goTo k) := h.put 3 _ rfl fun _ c => ⟨c.fam, c.out, c.bout, c.sn, c.scr, c.ext⟩
theorem RSt.fin_ (h : RSt wB w g vG vC V S) (x : Int) : RSt wB (w.setCell ⟨g, 6, none⟩ (.int .i64 x)) g vG vC V { S with fin := x } := h.put 6 _ rfl fun _ c => ⟨c.fam, c.out, c.bout, c.sn, c.scr, c.ext⟩
theorem RSt.value_ (h : RSt wB w g vG vC V S) (x : Int) : RSt wB (w.setCell ⟨g, 7, none⟩ (.int .i64 x)) g vG vC V { S with value := x } := h.put 7 _ rfl fun _ c => ⟨c.fam, c.out, c.bout, c.sn, c.scr, c.ext⟩
theorem RSt.steps_ (h : RSt wB w g vG vC V S) (k : Nat) : RSt wB (w.setCell ⟨g, 8, none⟩ (.int .i64 (k : Int))) g vG vC V { S with steps := k } := h.put 8 _ rfl fun _ c => ⟨c.fam, c.out, c.bout, c.sn, c.scr, c.ext⟩
theorem RSt.since_ (h : RSt wB w g vG vC V S) (x : Int) : RSt wB (w.setCell ⟨g, 13, none⟩ (.int .i64 x)) g vG vC V { S with since := x } := h.put 13 _ rfl fun _ c => ⟨c.fam, c.out, c.bout, c.sn, c.scr, c.ext⟩
theorem RSt.script_ (h : RSt wB w g vG vC V S) {u : Value} {l : List Int} (hu : Q1i wB u l) : RSt wB (w.setCell ⟨g, 11, none⟩ u) g vG vC { V with vX := u } { S with script := l } := h.put 11 _ rfl fun _ c => ⟨c.fam, c.out, c.bout, c.sn, hu, c.ext⟩
theorem Core.show_ (c : Core wB w V S) (hg : w.grownBy w' V.vS.ownBlock) {u : Value} {s : List LSee} (ho : w'.ownsRow wB.heap.size 79 3 u s.length (s.flatMap Q2g)) : Core wB w' { V with vS := u } { S with seen := s } :=
 ⟨c.fam.other c.sn (by decide) hg, Q0y c.out hg (fun k hk => Q13 c.sn c.out (by decide) k hk), fun e => ⟨Q0y (c.bout e).1 hg (fun k hk => Q13 c.sn (c.bout e).1 (by decide) k hk), (c.bout e).2⟩, ho, c.scr,
  Q33 c.ext hg c.ext.size (Q1u c.sn)⟩
theorem RSt.show_ (h : RSt wB w g vG vC V S) (hg : w.grownBy w' V.vS.ownBlock) {u : Value} {s : List LSee} (ho : w'.ownsRow wB.heap.size 79 3 u s.length (s.flatMap Q2g)) :
  RSt wB (w'.setCell ⟨g, 9, none⟩ u) g vG vC { V with vS := u } { S with seen := s } := by
 have hb := h.box.grown hg (Q06 h.core.sn h.box (by decide))
 exact ⟨hb.set_ 9 u, (h.core.show_ hg ho).box hb h.hg 9 u, h.hg⟩
theorem RSt.showStays (h : RSt wB w g vG vC V S) (hg : w.grownBy w' V.vS.ownBlock) (u : Value) : Q03 wB.heap.size w (w'.setCell ⟨g, 9, none⟩ u) := by
 have hb := h.box.grown hg (Q06 h.core.sn h.box (by decide))
 exact (Q03.grown h.core.sn (.inr (.inr rfl)) hg).trans (Q03.box hb h.hg 9 u)
theorem Q4m (V : RV) (S : Spc) : (Q1z V S)[0]? = some (V.vR, S.pl.regs) := rfl
theorem Q3r (V : RV) (S : Spc) : (Q1z V S)[1]? = some (V.vW, S.pl.words) := rfl
theorem Q7w (V : RV) (S : Spc) {n : Nat} (h1 : n < V.vs.length) (h2 : n < S.pl.past.length) : (Q1z V S)[2 + n]? = some (V.vs.getD n undef, S.pl.past.getD n []) := by
 unfold Q1z Q1l
 rw [List.getElem?_append_left (by simp; omega), show 2 + n = n + 1 + 1 by omega, List.getElem?_cons_succ, List.getElem?_cons_succ]
 simp [List.getElem?_zip_eq_some, h1, h2]
theorem Qdz (V : RV) (S : Spc) (u : Value) (l : List Int) : (Q1z V S).set 0 (u, l) = Q1z { V with vR := u } { S with pl := { S.pl with regs := l } } := rfl
theorem Qa4 (V : RV) (S : Spc) (u : Value) (l : List Int) : (Q1z V S).set 1 (u, l) = Q1z { V with vW := u } { S with pl := { S.pl with words := l } } := rfl
theorem Q93 {α β : Type} : ∀ (a : List α) (b : List β) (n : Nat) (x : α) (y : β), (a.zip b).set n (x, y) = (a.set n x).zip (b.set n y)
 | [], _, _, _, _ => by simp
 | _ :: _, [], _, _, _ => by simp
 | _ :: _, _ :: _, 0, _, _ => rfl
 | _ :: a, _ :: b, n + 1, x, y => by simp [Q93 a b n x y]
theorem Qdy (V : RV) (S : Spc) {n : Nat} (h1 : n < V.vs.length) (h2 : n < S.pl.past.length) (u : Value) (l : List Int) :
  (Q1z V S).set (2 + n) (u, l) = Q1z { V with vs := V.vs.set n u } { S with pl := { S.pl with past := S.pl.past.set n l } } := by
 unfold Q1z Q1l
 rw [List.set_append_left _ _ (by simp; omega), show 2 + n = n + 1 + 1 by omega, List.set_cons_succ, List.set_cons_succ, Q93]
theorem Core.regs (c : Core wB w V S) (hg : w.grownBy w' V.vR.ownBlock) {l : List Int} (ho : w'.ownsRow wB.heap.size 2 1 V.vR l.length (l.map (Value.int .i64))) : Core wB w' V { S with pl := { S.pl with regs := l } } := by
 have hr := c.fam.at_ (Q4m V S)
 refine ⟨?_, Q0y c.out hg (fun k hk => Q13 hr c.out (by decide) k hk), fun e => ⟨Q0y (c.bout e).1 hg (fun k hk => Q13 hr (c.bout e).1 (by decide) k hk), (c.bout e).2⟩, Q0y c.sn hg (fun k hk => Q13 hr c.sn (by decide) k hk), c.scr,
  Q33 c.ext hg c.ext.size (Q1u hr)⟩
 have := c.fam.set_ (Q4m V S) hg ho (fun k hk => .inl hk)
 rw [Qdz] at this
 exact this
theorem RSt.regs (h : RSt wB w g vG vC V S) (hg : w.grownBy w' V.vR.ownBlock) {l : List Int} (ho : w'.ownsRow wB.heap.size 2 1 V.vR l.length (l.map (Value.int .i64))) : RSt wB w' g vG vC V { S with pl := { S.pl with regs := l } } :=
 ⟨h.box.grown hg (Q06 (h.core.fam.at_ (Q4m V S)) h.box (by decide)), h.core.regs hg ho, h.hg⟩
theorem RSt.regsStays (h : RSt wB w g vG vC V S) (hg : w.grownBy w' V.vR.ownBlock) : Q03 wB.heap.size w w' := Q03.grown (h.core.fam.at_ (Q4m V S)) (.inl rfl) hg
theorem RSt.reg (h : RSt wB w g vG vC V S) {k n cap x : Nat} (hv : V.vR = .slice (some ⟨k, 0, none⟩) n cap) (z : Int) : RSt wB (w.setCell ⟨k, x, none⟩ (.int .i64 z)) g vG vC V { S with pl := { S.pl with regs := S.pl.regs.set x z } } ∧ Q03 wB.heap.size w (w.setCell ⟨k, x, none⟩ (.int .i64 z)) := by
 have hr := h.core.fam.at_ (Q4m V S)
 have hg := Q3q w ⟨k, x, none⟩ (.int .i64 z)
 have e : V.vR.ownBlock = some k := by rw [hv]; rfl
 rw [← e] at hg
 refine ⟨h.regs hg ?_, h.regsStays hg⟩
 rw [hv] at hr ⊢
 obtain rfl : n = S.pl.regs.length := by
  rcases hr.2 with ⟨h0, -⟩ | ⟨g, c, cur, hv, -⟩
  ·cases h0
  ·simp only [Value.slice.injEq] at hv
   exact hv.2.1
 have := (hr.stored x (.int .i64 z)).1
 rw [List.length_set, List.map_set]
 exact this
theorem RSt.word (h : RSt wB w g vG vC V S) {k n cap x : Nat} (hv : V.vW = .slice (some ⟨k, 0, none⟩) n cap) (z : Int) : RSt wB (w.setCell ⟨k, x, none⟩ (.int .i64 z)) g vG vC V { S with pl := { S.pl with words := S.pl.words.set x z } } ∧ Q03 wB.heap.size w (w.setCell ⟨k, x, none⟩ (.int .i64 z)) := by
 have c := h.core
 have hr := c.fam.at_ (Q3r V S)
 have hg := Q3q w ⟨k, x, none⟩ (.int .i64 z)
 have e : V.vW.ownBlock = some k := by rw [hv]; rfl
 rw [← e] at hg
 refine ⟨⟨h.box.grown hg (Q06 hr h.box (by decide)), ⟨?_, Q0y c.out hg (fun k hk => Q13 hr c.out (by decide) k hk), fun e => ⟨Q0y (c.bout e).1 hg (fun k hk => Q13 hr (c.bout e).1 (by decide) k hk), (c.bout e).2⟩, Q0y c.sn hg (fun k hk => Q13 hr c.sn (by decide) k hk), c.scr,
  Q33 c.ext hg c.ext.size (Q1u hr)⟩, h.hg⟩, Q03.grown hr (.inl rfl) hg⟩
 have hi := Q3r V S
 rw [hv] at hi
 have := c.fam.put hi (x := x) z
 rw [← hv, Qa4] at this
 exact this
theorem Core.past (c : Core wB w V S) {n : Nat} (h1 : n < S.pl.past.length) {u : Value} {l : List Int} (hg : w.grownBy w' (V.vs.getD n undef).ownBlock) (ho : w'.ownsRow wB.heap.size 2 1 u l.length (l.map (Value.int .i64)))
  (hat : ∀ k, u.ownBlock = some k → (V.vs.getD n undef).ownBlock = some k ∨ w.heap.size ≤ k) {kp cap : Nat} (hv : V.vP = .slice (some ⟨kp, 0, none⟩) S.pl.past.length cap) :
  Core wB (w'.setCell ⟨kp, n, none⟩ u) { V with vs := V.vs.set n u } { S with pl := { S.pl with past := S.pl.past.set n l } } ∧ Q03 wB.heap.size w (w'.setCell ⟨kp, n, none⟩ u) := by
 have hvl : V.vs.length = S.pl.past.length := by have := c.out.1; omega
 have hi := Q7w V S (n := n) (by omega) h1
 have hr := c.fam.at_ hi
 have hf := c.fam.set_ hi hg ho hat
 rw [Qdy V S (by omega) h1] at hf
 have ho1 := Q0y c.out hg (fun k hk => Q13 hr c.out (by decide) k hk)
 have hs1 := Q0y c.sn hg (fun k hk => Q13 hr c.sn (by decide) k hk)
 have hx1 : Ext wB w' := Q33 c.ext hg c.ext.size (Q1u hr)
 have hset := Q3q w' ⟨kp, n, none⟩ u
 have e : V.vP.ownBlock = some kp := by rw [hv]; rfl
 rw [← e] at hset
 refine ⟨⟨hf.other ho1 (by decide) hset, ?_, fun ea => ?_, Q0y hs1 hset (fun k hk => Q13 ho1 hs1 (by decide) k hk), c.scr, Q33 hx1 hset hx1.size (Q1u ho1)⟩, (Q03.grown hr (.inl rfl) hg).trans (Q03.grown ho1 (.inr (.inl rfl)) hset)⟩
 ·rw [hv] at ho1 ⊢
  have := (ho1.stored n u).1
  simp only [List.length_set]
  exact this
 ·obtain ⟨h3, h4⟩ := c.bout ea
  have h5 := Q0y h3 hg (fun k hk => Q13 hr h3 (by decide) k hk)
  exact ⟨Q0y h5 hset (fun k hk => h4 k hk), h4⟩
end
def Q5n (wB w : World) (g : Nat) (vG vC : Value) (S' : Spc) (r : Value) (e : Ending) (w' : World) : Prop := e = .returned r ∧ ∃ V', RSt wB w' g vG vC V' S' ∧ Q03 wB.heap.size w w'
section
variable {wB w : World} {g : Nat} {vG vC : Value} {V : RV} {S : Spc}
set_option maxHeartbeats 2000000 in
theorem Q7u (h : RSt wB w g vG vC V S) (kind a b : Int) (hl : S.seen.length ≤ 1000000) :
  Calls Try.prog 26 #[.pointer (some ⟨g, 0, none⟩), .int .i64 kind, .int .i64 a, .int .i64 b] w (Q5n wB w g vG vC { S with seen := S.seen ++ [⟨kind, a, b⟩] } (.tuple #[])) := by
 obtain ⟨i0', hi0', hz0', hz1', hz2'⟩ := info_parts Q8i
 have hgl := h.box.lt
 have hBs := h.core.ext.size
 have P := Lib.hid h
 obtain ⟨ov, ovc, hvS⟩ := Q0m h.core.sn
 have HvS := Lib.hid hvS
 have g9 : w.cell? ⟨g, 9, none⟩ = some (.slice ov S.seen.length ovc) ∧ w.frozen? ⟨g, 9, none⟩ = false := ⟨by rw [h.box.cell, ← hvS]; rfl, h.box.frozen 9⟩
 have SN := h.core.sn
 rw [hvS] at SN
 have SN := Lib.hid SN
 clear h hvS
 go_enter Try.func26, Try.ntmps26
 go_wp2_with (at_builtin; refine Q2e _ rfl _ _ 28 rfl wB.heap.size 79 i0' _ 3 24 Try.underlying28 hi0' hz0' hz1' hz2' rfl (by decide) _ _ _ rfl (Q3t SN.out) (some ⟨w.heap.size, 0, none⟩) 1 1 (Q2g ⟨kind, a, b⟩) rfl ?c1 ?c3 ?c4 ?c5 ?_)
 case c1 => exact Q3l (size := 3) (Blk.new w 79 #[.int .i64 kind, .int .i64 a, .int .i64 b]) rfl (by simp [Value.oneCell'])
 case c3 => unfold maxLen; omega
 case c4 => omega
 case c5 => simp; omega
 intro vS' w3 hown hgrow hat
 obtain ⟨ow, owc, rfl⟩ := Q0m hown
 have hx := (Ext.refl w).alloc (.cells #[.int .i64 kind, .int .i64 a, .int .i64 b] 79)
 have P1 := P.out.extend hx
 have hgrow : (w.alloc (.cells #[.int .i64 kind, .int .i64 a, .int .i64 b] 79)).grownBy w3 (Value.slice ov S.seen.length ovc).ownBlock := hgrow
 rw [← HvS.out] at hgrow
 have hb := P1.box.grown hgrow (Q06 P1.core.sn P1.box (by decide))
 have p9 : w3.cell? ⟨g, 9, none⟩ = some (.slice ov S.seen.length ovc) ∧ w3.frozen? ⟨g, 9, none⟩ = false := ⟨by rw [hb.cell, ← HvS.out]; rfl, hb.frozen 9⟩
 have hgl3 := hb.lt
 have P2 := Lib.hid (P1.show_ (s := S.seen ++ [⟨kind, a, b⟩]) (u := .slice ow (S.seen.length + 1) owc) hgrow (by simpa using hown))
 have HT := Lib.hid ((Q03.ofExt (B := wB.heap.size) hx).trans (P1.showStays hgrow (.slice ow (S.seen.length + 1) owc)))
 clear hown hgrow hat hx P1 g9 hb
 go_wp2
 refine bodyPost_end (results_none rfl _ _ _) rfl ?_
 exact ⟨rfl, _, P2.out, HT.out⟩
set_option maxHeartbeats 2000000 in
theorem Q7z (h : RSt wB w g vG vC V S) :
  Calls Try.prog 47 #[.pointer (some ⟨g, 0, none⟩)] w (Q5n wB w g vG vC S.chosen (.int .i64 S.choice)) := by
 have hgl := h.box.lt
 have P := Lib.hid h
 obtain ⟨h64, oa, cap, b, o, hv, hc1, hc2, hrow⟩ := h.core.scr
 have g11 : w.cell? ⟨g, 11, none⟩ = some (.slice oa S.script.length cap) ∧ w.frozen? ⟨g, 11, none⟩ = false := ⟨by rw [h.box.cell, ← hv]; rfl, h.box.frozen 11⟩
 have hrow2 := hrow.ext h.core.ext
 have hix := Q3f (cap := cap) hrow.at_
 have Hrow := Lib.hid hrow
 have H64 := Lib.hid h64
 clear h hv h64
 cases hs : S.script with
 | nil =>
  have Hs := Lib.hid hs
  rw [hs] at g11
  clear hrow hrow2 hix hs hc1
  go_enter Try.func47, Try.ntmps47
  go_wp2
  go_ret
  refine ⟨Q14 (by unfold Spc.choice; rw [Hs.out]; rfl), V, ?_, Q03.refl _⟩
  have : S.chosen = S := by unfold Spc.chosen; rw [Hs.out, List.tail_nil, ← Hs.out]
  rw [this]
  exact P.out
 | cons x l =>
  have Hs := Lib.hid hs
  have c0 : w.cell? ⟨b, o, none⟩ = some (.int .i64 x) := by
   have := hrow2.one 0 (by rw [hs]; simp)
   rw [hs] at this
   simpa using this
  have hbl := Q0s c0
  rw [hs] at g11 hix hc1
  simp only [List.length_cons] at g11 hix hc1
  obtain rfl : oa = some ⟨b, o, none⟩ := hrow.at_ (by rw [hs]; simp)
  by_cases hcap : cap = 1
  ·subst hcap
   obtain rfl : l = [] := by
    cases l with
    | nil => rfl
    | cons y l => simp at hc1
   have HU : Hid (Q1i wB (.slice (some ⟨b, o, none⟩) 0 0) []) := Lib.hid ⟨fun y hy => by simp at hy, _, 0, b, o, rfl, by simp, by decide, ⟨fun _ => rfl, fun i j hi hj => by simp at hi⟩⟩
   have PP := Lib.hid (P.out.script_ HU.out)
   have HT := Lib.hid (P.out.stays 11 (.slice (some ⟨b, o, none⟩) 0 0))
   clear hrow hrow2 hs
   go_enter Try.func47, Try.ntmps47
   go_wp2
   go_ret
   have e : S.chosen = { S with script := [] } := by unfold Spc.chosen; rw [Hs.out]; rfl
   have P2 := PP.out
   rw [← e] at P2
   exact ⟨Q14 (by unfold Spc.choice; rw [Hs.out]; rfl), _, P2, HT.out⟩
  ·have HU : Hid (Q1i wB (.slice (some ⟨b, o + 1, none⟩) l.length (cap - 1)) l) := Lib.hid ⟨fun y hy => H64.out y (by rw [Hs.out]; exact List.mem_cons_of_mem _ hy), _, cap - 1, b, o + 1, rfl, by omega, by omega, ⟨fun _ => rfl, fun i j hi hj => by
    obtain rfl : j = 0 := by omega
    have := Hrow.out.cell (i + 1) 0 (by rw [Hs.out]; simp; omega) (by omega)
    rw [Hs.out] at this
    simpa [Nat.add_comm, Nat.add_left_comm, Nat.add_assoc] using this⟩⟩
   have PP := Lib.hid (P.out.script_ HU.out)
   have HT := Lib.hid (P.out.stays 11 (.slice (some ⟨b, o + 1, none⟩) l.length (cap - 1)))
   have hc0 : cap - 1 ≠ 0 := by omega
   clear hrow hrow2 hs
   go_enter Try.func47, Try.ntmps47
   go_wp2
   go_ret
   have e : S.chosen = { S with script := l } := by unfold Spc.chosen; rw [Hs.out]; rfl
   have P2 := PP.out
   rw [← e] at P2
   exact ⟨Q14 (by unfold Spc.choice; rw [Hs.out]; rfl), _, P2, HT.out⟩
set_option maxHeartbeats 2000000 in
theorem RSt.leave_ (h : RSt wB w g vG vC V S) (ha : S.ahead = false) {w1 : World} (hx : Ext ((w.setCell ⟨g, 12, none⟩ (.bool true)).setCell ⟨g, 13, none⟩ (.int .i64 (-1))) w1) {bR bW bP : Value} {bs : List Value} (hF : Fam w1 w.heap.size (Q1l bR bW bs S.pl))
  (hO : w1.ownsRow w.heap.size 52 1 bP S.pl.past.length bs) :
  RSt wB ((((w1.setCell ⟨g, 14, none⟩ bR).setCell ⟨g, 15, none⟩ bW).setCell ⟨g, 16, none⟩ bP).setCell ⟨g, 17, none⟩ (.int .i64 S.pl.at_)) g vG vC { V with bR := bR, bW := bW, bP := bP, bs := bs } S.leave ∧
   Q03 wB.heap.size w ((((w1.setCell ⟨g, 14, none⟩ bR).setCell ⟨g, 15, none⟩ bW).setCell ⟨g, 16, none⟩ bP).setCell ⟨g, 17, none⟩ (.int .i64 S.pl.at_)) := by
 have hs : S.leave = { S with ahead := true, since := -1, back := S.pl } := by unfold Spc.leave; rw [if_neg (by rw [ha]; simp)]
 have hBs := h.core.ext.size
 have b1 := h.box.set_ 12 (.bool true)
 have b2 := b1.set_ 13 (.int .i64 (-1))
 have c1 := ((h.core.box h.box h.hg 12 (.bool true)).box b1 h.hg 13 (.int .i64 (-1))).extend hx
 have b3 := b2.ext hx
 have b4 := b3.set_ 14 bR
 have b5 := b4.set_ 15 bW
 have b6 := b5.set_ 16 bP
 have b7 := b6.set_ 17 (.int .i64 S.pl.at_)
 have hfo : Fam w1 wB.heap.size (Q1l V.vR V.vW V.vs S.pl) := by
  have := c1.fam
  unfold Q1z at this
  rw [if_neg (by rw [ha]; simp), List.append_nil] at this
  exact this
 have hlt : ∀ x ∈ Q1l V.vR V.vW V.vs S.pl, ∀ k, x.1.ownBlock = some k → k < w.heap.size := by
  intro x hxm k hk
  refine (h.core.fam.size (x := x) ?_ k hk).2
  unfold Q1z
  exact List.mem_append_left _ hxm
 have c2 : Core wB w1 { V with bR := bR, bW := bW, bP := bP, bs := bs } { S with ahead := true, since := -1, back := S.pl } := by
  refine ⟨?_, c1.out, fun _ => ⟨own_mono' hO hBs, fun k hk hk' => ?_⟩, c1.sn, c1.scr, c1.ext⟩
  ·exact hfo.app hF hBs hlt
  ·have e1 := (h.core.out.lt k hk).2
   have e2 := (hO.lt k hk').1
   omega
 have c3 := (((c2.box b3 h.hg 14 bR).box b4 h.hg 15 bW).box b5 h.hg 16 bP).box b6 h.hg 17 (.int .i64 S.pl.at_)
 rw [hs]
 refine ⟨⟨b7, c3, h.hg⟩, ?_⟩
 exact ((((((Q03.box h.box h.hg 12 (.bool true)).trans (Q03.box b1 h.hg 13 (.int .i64 (-1)))).ext hx).trans (Q03.box b3 h.hg 14 bR)).trans (Q03.box b4 h.hg 15 bW)).trans (Q03.box b5 h.hg 16 bP)).trans (Q03.box b6 h.hg 17 _)
set_option maxHeartbeats 2000000 in
theorem RSt.back_ (h : RSt wB w g vG vC V S) (ha : S.ahead = true) :
  RSt wB (((((w.setCell ⟨g, 12, none⟩ (.bool false)).setCell ⟨g, 0, none⟩ V.bR).setCell ⟨g, 1, none⟩ V.bW).setCell ⟨g, 2, none⟩ V.bP).setCell ⟨g, 3, none⟩ (.int .i64 S.back.at_)) g vG vC { V with vR := V.bR, vW := V.bW, vP := V.bP, vs := V.bs } { S with ahead := false, pl := S.back } ∧
   Q03 wB.heap.size w (((((w.setCell ⟨g, 12, none⟩ (.bool false)).setCell ⟨g, 0, none⟩ V.bR).setCell ⟨g, 1, none⟩ V.bW).setCell ⟨g, 2, none⟩ V.bP).setCell ⟨g, 3, none⟩ (.int .i64 S.back.at_)) := by
 have b1 := h.box.set_ 12 (.bool false)
 have b2 := b1.set_ 0 V.bR
 have b3 := b2.set_ 1 V.bW
 have b4 := b3.set_ 2 V.bP
 have b5 := b4.set_ 3 (.int .i64 S.back.at_)
 have c0 : Core wB w { V with vR := V.bR, vW := V.bW, vP := V.bP, vs := V.bs } { S with ahead := false, pl := S.back } := by
  have c := h.core
  refine ⟨?_, (c.bout ha).1, fun e => (by cases e), c.sn, c.scr, c.ext⟩
  refine c.fam.sub ?_
  unfold Q1z
  rw [if_neg (by simp), List.append_nil, if_pos ha]
  exact List.sublist_append_right _ _
 have c1 := ((((c0.box h.box h.hg 12 (.bool false)).box b1 h.hg 0 V.bR).box b2 h.hg 1 V.bW).box b3 h.hg 2 V.bP).box b4 h.hg 3 (.int .i64 S.back.at_)
 refine ⟨⟨b5, c1, h.hg⟩, ?_⟩
 exact ((((Q03.box h.box h.hg 12 (.bool false)).trans (Q03.box b1 h.hg 0 V.bR)).trans (Q03.box b2 h.hg 1 V.bW)).trans (Q03.box b3 h.hg 2 V.bP)).trans (Q03.box b4 h.hg 3 _)
set_option maxHeartbeats 2000000 in
theorem Q7v (h : RSt wB w g vG vC V S) (ha : S.ahead = true) (hl : S.seen.length ≤ 1000000) :
  Calls Try.prog 25 #[.pointer (some ⟨g, 0, none⟩)] w (Q5n wB w g vG vC S.returns (.tuple #[])) := by
 have H := Lib.hid h
 have hgl := h.box.lt
 clear h
 go_enter Try.func25, Try.ntmps25
 go_wp2_with fail
 have C := Q7u H.out 4 0 0 hl
 (with_reducible refine C.mono ?_)
 clear C
 rintro e w1 ⟨rfl, V1, h1, T1⟩
 have hgl := h1.box.lt
 have cf : ∀ i, w1.frozen? ⟨g, i, none⟩ = false := fun i => h1.box.frozen i
 have g12 : w1.cell? ⟨g, 12, none⟩ = some (.bool S.ahead) ∧ w1.frozen? ⟨g, 12, none⟩ = false := ⟨by rw [h1.box.cell]; rfl, cf _⟩
 have g0 : w1.cell? ⟨g, 0, none⟩ = some V1.vR ∧ w1.frozen? ⟨g, 0, none⟩ = false := ⟨by rw [h1.box.cell]; rfl, cf _⟩
 have g1 : w1.cell? ⟨g, 1, none⟩ = some V1.vW ∧ w1.frozen? ⟨g, 1, none⟩ = false := ⟨by rw [h1.box.cell]; rfl, cf _⟩
 have g2 : w1.cell? ⟨g, 2, none⟩ = some V1.vP ∧ w1.frozen? ⟨g, 2, none⟩ = false := ⟨by rw [h1.box.cell]; rfl, cf _⟩
 have g3 : w1.cell? ⟨g, 3, none⟩ = some (.int .i64 S.pl.at_) ∧ w1.frozen? ⟨g, 3, none⟩ = false := ⟨by rw [h1.box.cell]; rfl, cf _⟩
 have g14 : w1.cell? ⟨g, 14, none⟩ = some V1.bR ∧ w1.frozen? ⟨g, 14, none⟩ = false := ⟨by rw [h1.box.cell]; rfl, cf _⟩
 have g15 : w1.cell? ⟨g, 15, none⟩ = some V1.bW ∧ w1.frozen? ⟨g, 15, none⟩ = false := ⟨by rw [h1.box.cell]; rfl, cf _⟩
 have g16 : w1.cell? ⟨g, 16, none⟩ = some V1.bP ∧ w1.frozen? ⟨g, 16, none⟩ = false := ⟨by rw [h1.box.cell]; rfl, cf _⟩
 have g17 : w1.cell? ⟨g, 17, none⟩ = some (.int .i64 S.back.at_) ∧ w1.frozen? ⟨g, 17, none⟩ = false := ⟨by rw [h1.box.cell]; rfl, cf _⟩
 obtain ⟨h2, T2⟩ := h1.back_ ha
 have hfb : Fam w1 wB.heap.size (Q1l V1.bR V1.bW V1.bs S.back) := by
  refine h1.core.fam.sub ?_
  unfold Q1z
  rw [if_pos (show ({ S with seen := S.seen ++ [⟨4, 0, 0⟩] } : Spc).ahead = true from ha)]
  exact List.sublist_append_right _ _
 obtain ⟨oa, ca, ea⟩ := Q0m (hfb.at_ (i := 0) rfl)
 obtain ⟨ob, cb, eb⟩ := Q0m (hfb.at_ (i := 1) rfl)
 obtain ⟨oc, cc, ec⟩ := Q0m (h1.core.bout ha).1
 rw [ea, eb, ec] at h2 T2
 rw [ea] at g14
 rw [eb] at g15
 rw [ec] at g16
 have H2 := Lib.hid h2
 have T := Lib.hid (T1.trans T2)
 clear h1 T1 h2 T2 cf hfb ea eb ec
 go_wp2
 refine bodyPost_end (results_none rfl _ _ _) rfl ?_
 exact ⟨rfl, _, H2.out, T.out⟩
end
theorem Q8j (W : World) (k n cap : Nat) (i : Int) (h0 : 0 ≤ i) (h1 : i < n) :
  (Instr.indexAt 26 (.slice (some ⟨k, 0, none⟩) n cap) (.int .i64 i)).run Try.prog W = .ok (.pointer (some ⟨k, i.toNat, none⟩)) W := by
 have := index_mem' (oa := some ⟨k, 0, none⟩) (n := n) (b := k) (o := 0) (cap := cap) (fun _ => rfl) W i h0 h1
 simpa using this
theorem Qe0 (vR vW : Value) (vs : List Value) (P : Plc) {n : Nat} (h1 : n < vs.length) (h2 : n < P.past.length) : (Q1l vR vW vs P)[2 + n]? = some (vs.getD n undef, P.past.getD n []) := by
 unfold Q1l
 rw [show 2 + n = n + 1 + 1 by omega, List.getElem?_cons_succ, List.getElem?_cons_succ]
 simp [List.getElem?_zip_eq_some, h1, h2]
def Qj3 (P : Plc) (w : World) (e : Ending) (w' : World) : Prop :=
 ∃ bR bW bP bs, e = .returned (.agg #[bR, bW, bP, .int .i64 P.at_]) ∧ Fam w' w.heap.size (Q1l bR bW bs P) ∧ w'.ownsRow w.heap.size 52 1 bP P.past.length bs ∧ Ext w w'
theorem Q5v {w : World} {B : Nat} {E : TypeId} {oa : Option Addr} {n cap : Nat} {l : List Int} (h : w.ownsRow B E 1 (.slice oa n cap) n (l.map (Value.int .i64))) : Src w 1 oa n (l.map (Value.int .i64)) := by
 have hl : l.length = n := by have := h.1; simpa using this
 subst hl
 rw [← Q73] at h
 obtain ⟨oa', cap', b, hv, h2, h3, h4, -⟩ := Q59 (c := 1) (f := fun x => [Value.int .i64 x]) (g := fun x _ => Value.int .i64 x) (by omega) (fun _ => rfl) (fun x j hj => by
  obtain rfl : j = 0 := by omega
  rfl) h
 simp only [Value.slice.injEq] at hv
 obtain ⟨rfl, -, rfl⟩ := hv
 exact Q6h .i64 h4
structure Q2x (w0 w : World) (q : Nat) (P : Plc) (bR bW bP : Value) (bs : List Value) (r ws : List Int) (ps : List (List Int)) : Prop where
 box : Blk w q 65 #[bR, bW, bP, .int .i64 P.at_]
 fam : Fam w w0.heap.size (Q1l bR bW bs { P with regs := r, words := ws, past := ps })
 out : w.ownsRow w0.heap.size 52 1 bP ps.length bs
 ext : Ext w0 w
 hq : w0.heap.size ≤ q
section
variable {w0 w w' : World} {q : Nat} {P : Plc} {bR bW bP u : Value} {bs : List Value} {r ws : List Int} {ps : List (List Int)}
theorem Q2x.extend (h : Q2x w0 w q P bR bW bP bs r ws ps) (hx : Ext w w') : Q2x w0 w' q P bR bW bP bs r ws ps := ⟨h.box.ext hx, h.fam.ext hx, Q1m h.out hx, h.ext.trans hx, h.hq⟩
theorem Q2x.regs (h : Q2x w0 w q P bR bW bP bs r ws ps) (hg : w.grownBy w' bR.ownBlock) {l : List Int} (ho : w'.ownsRow w0.heap.size 2 1 u l.length (l.map (Value.int .i64))) (hat : ∀ k, u.ownBlock = some k → bR.ownBlock = some k ∨ w.heap.size ≤ k) :
  Q2x w0 (w'.setCell ⟨q, 0, none⟩ u) q P u bW bP bs l ws ps := by
 have hr := h.fam.at_ (i := 0) rfl
 have hb := h.box.grown hg (Q06 hr h.box (by decide))
 have hf := h.fam.set_ (i := 0) rfl hg ho hat
 have ho' := Q0y h.out hg (fun k hk => Q13 hr h.out (by decide) k hk)
 exact ⟨hb.set_ 0 u, hf.far hb (by decide) 0 u, Q0o (p := ⟨q, 0, none⟩) ho' (Q06 ho' hb (by decide)) u, (Q33 h.ext hg h.ext.size (Q1u hr)).setCell h.hq u, h.hq⟩
theorem Q2x.words (h : Q2x w0 w q P bR bW bP bs r ws ps) (hg : w.grownBy w' bW.ownBlock) {l : List Int} (ho : w'.ownsRow w0.heap.size 2 1 u l.length (l.map (Value.int .i64))) (hat : ∀ k, u.ownBlock = some k → bW.ownBlock = some k ∨ w.heap.size ≤ k) :
  Q2x w0 (w'.setCell ⟨q, 1, none⟩ u) q P bR u bP bs r l ps := by
 have hr := h.fam.at_ (i := 1) rfl
 have hb := h.box.grown hg (Q06 hr h.box (by decide))
 have hf := h.fam.set_ (i := 1) rfl hg ho hat
 have ho' := Q0y h.out hg (fun k hk => Q13 hr h.out (by decide) k hk)
 exact ⟨hb.set_ 1 u, hf.far hb (by decide) 1 u, Q0o (p := ⟨q, 1, none⟩) ho' (Q06 ho' hb (by decide)) u, (Q33 h.ext hg h.ext.size (Q1u hr)).setCell h.hq u, h.hq⟩
theorem Q2x.push (h : Q2x w0 w q P bR bW bP bs r ws ps) {w1 : World} (hx : Ext w w1) {x : Value} {l : List Int} (ho : w1.ownsRow w.heap.size 2 1 x l.length (l.map (Value.int .i64))) (hg : w1.grownBy w' bP.ownBlock)
  (hO : w'.ownsRow w0.heap.size 52 1 u (ps.length + 1) (bs ++ [x])) : Q2x w0 (w'.setCell ⟨q, 2, none⟩ u) q P bR bW u (bs ++ [x]) r ws (ps ++ [l]) := by
 have h1 := h.extend hx
 have hbl : bs.length = ps.length := by have := h.out.1; omega
 have hb := h1.box.grown hg (Q06 h1.out h1.box (by decide))
 have hf1 : Fam w1 w0.heap.size (Q1l bR bW bs { P with regs := r, words := ws, past := ps } ++ [(x, l)]) := h1.fam.app (B' := w.heap.size) ⟨fun y hy => by
   simp only [List.mem_singleton] at hy
   subst hy
   exact ho, List.pairwise_singleton _ _⟩ h.ext.size (fun y hy k hk => (h.fam.size hy k hk).2)
 have hf2 := hf1.other h1.out (by decide) hg
 have e : Q1l bR bW bs { P with regs := r, words := ws, past := ps } ++ [(x, l)] = Q1l bR bW (bs ++ [x]) { P with regs := r, words := ws, past := ps ++ [l] } := by
  unfold Q1l
  simp only [List.cons_append]
  rw [List.zip_append hbl]
  rfl
 rw [e] at hf2
 have hne := Q06 hO hb (by decide)
 refine ⟨hb.set_ 2 u, hf2.far hb (by decide) 2 u, ?_, (Q33 h1.ext hg h1.ext.size (Q1u h1.out)).setCell h.hq u, h.hq⟩
 rw [List.length_append]
 exact Q0o (p := ⟨q, 2, none⟩) hO hne u
end
set_option maxRecDepth 100000 in
set_option maxHeartbeats 4000000 in
theorem Qia (P : Plc) (vR vW vP : Value) (vs : List Value) (B : Nat) (w : World) (hF : Fam w B (Q1l vR vW vs P)) (hO : w.ownsRow B 52 1 vP P.past.length vs) (h1 : P.regs.length ≤ 1000000) (h2 : P.words.length ≤ 1000000) (h3 : P.past.length ≤ 1000000) (h4 : ∀ l ∈ P.past, l.length ≤ 1000000) :
  Calls Try.prog 63 #[.agg #[vR, vW, vP, .int .i64 P.at_]] w (Qj3 P w) := by
 obtain ⟨i0, hi0, hz0, hz1, hz2⟩ := info_parts Q4w
 obtain ⟨j0, hj0, hy0, hy1, hy2⟩ := info_parts Q6y
 have HF := Lib.hid hF
 have HO := Lib.hid hO
 have H4 := Lib.hid h4
 have hrR := hF.at_ (i := 0) rfl
 have hrW := hF.at_ (i := 1) rfl
 obtain ⟨oR, cR, rfl⟩ := Q0m hrR
 obtain ⟨oW, cW, rfl⟩ := Q0m hrW
 obtain ⟨oP, cP, rfl⟩ := Q0m hO
 have HR := Lib.hid (Q5v hrR)
 have HW := Lib.hid (Q5v hrW)
 clear hF hO h4 hrR hrW
 go_enter Try.func63, Try.ntmps63
 go_upto_region 2 with fail
 obtain ⟨W, ga, hga, hW, hx, b0, b1, b2⟩ := Qif w #[.slice oR P.regs.length cR, .slice oW P.words.length cW, .slice oP P.past.length cP, .int .i64 P.at_] #[.slice none 0 0, .slice none 0 0, .slice none 0 0, .int .i64 0] #[.slice none 0 0, .slice none 0 0, .slice none 0 0, .int .i64 P.at_] 65 65 65
 rw [hW, hga]
 have hgq : ga + 1 + 1 < W.heap.size := b2.lt
 have hqa : ga ≠ ga + 1 + 1 := by omega
 have hqb : ga + 1 ≠ ga + 1 + 1 := by omega
 have XW := Lib.hid hx
 have Hga : Hid (w.heap.size ≤ ga) := Lib.hid (by omega)
 have C0 : Hid (Q2x w W (ga + 1 + 1) P (.slice none 0 0) (.slice none 0 0) (.slice none 0 0) [] [] [] []) := Lib.hid ⟨b2, ⟨fun x hx => by
  simp only [Q1l, List.zip_nil_left, List.mem_cons, List.not_mem_nil, or_false] at hx
  rcases hx with rfl | rfl <;> exact World.ownsRow_nil _ _ _ _, by
  unfold Q1l
  simp [Value.ownBlock]⟩, World.ownsRow_nil _ _ _ _, hx, by omega⟩
 generalize hq : ga + 1 + 1 = q at *
 have B0 := Lib.hid b0
 have B1 := Lib.hid b1
 have p0 : W.cell? ⟨ga, 0, none⟩ = some (.slice oR P.regs.length cR) := by rw [b0.cell]; rfl
 have q0 : W.cell? ⟨q, 0, none⟩ = some (.slice none 0 0) ∧ W.frozen? ⟨q, 0, none⟩ = false := ⟨by rw [b2.cell]; rfl, b2.frozen _⟩
 have hWs := hx.size
 clear hW hga hx b0 b1 b2 hq
 go_wp2_with (at_builtin; refine Q2e _ rfl (.tmp 9) (.tmp 11) 52 rfl w.heap.size 2 i0 _ 1 8 Try.underlying52 hi0 hz0 hz1 hz2 rfl (by decide) _ 0 [] rfl ?c0 oR P.regs.length cR (P.regs.map (Value.int .i64)) rfl ?c1 ?c3 ?c4 ?c5 ?_)
 case c0 => exact World.ownsRow_nil _ _ _ _
 case c1 => exact HR.out.ext XW.out
 case c3 => unfold maxLen; omega
 case c4 => omega
 case c5 => exact hWs
 intro v1 w1 hown hgrow hat
 have hgrow : W.grownBy w1 (Value.slice none 0 0).ownBlock := hgrow
 have hown : w1.ownsRow w.heap.size 2 1 v1 P.regs.length (P.regs.map (Value.int .i64)) := by simpa using hown
 have hat : ∀ k, v1.ownBlock = some k → (Value.slice none 0 0).ownBlock = some k ∨ W.heap.size ≤ k := fun k hk => by
  rcases hat with e | e
  ·left; rw [← e]; exact hk
  ·right; rw [e] at hk; simp only [Option.some.injEq] at hk; omega
 have C1 := Lib.hid (C0.out.regs hgrow hown hat)
 have hg0 : ∀ k, (Value.slice none 0 0).ownBlock = some k → False := fun k h => by cases h
 have b0 := B0.out.grown hgrow (by intro e; cases e)
 have b1 := B1.out.grown hgrow (by intro e; cases e)
 have b2 := C0.out.box.grown hgrow (by intro e; cases e)
 have b0' := b0.far (p := ⟨q, 0, none⟩) hqa v1
 have b1' := b1.far (p := ⟨q, 0, none⟩) hqb v1
 have B0 := Lib.hid b0'
 have B1 := Lib.hid b1'
 have X1 : Hid (Ext w (w1.setCell ⟨q, 0, none⟩ v1)) := Lib.hid C1.out.ext
 obtain ⟨o1, c1, rfl⟩ := Q0m hown
 have p1 : w1.cell? ⟨ga, 1, none⟩ = some (.slice oW P.words.length cW) := by rw [b0.cell]; rfl
 have q0 : w1.cell? ⟨q, 0, none⟩ = some (.slice none 0 0) ∧ w1.frozen? ⟨q, 0, none⟩ = false := ⟨by rw [b2.cell]; rfl, b2.frozen _⟩
 have q1 : w1.cell? ⟨q, 1, none⟩ = some (.slice none 0 0) ∧ w1.frozen? ⟨q, 1, none⟩ = false := ⟨by rw [b2.cell]; rfl, b2.frozen _⟩
 have hql := b2.lt
 have hgl := b0.lt
 have hws1 := X1.out.size
 clear hown hgrow hat hg0 b0 b1 b2 b0' b1' p0
 go_wp2_with (at_builtin; refine Q2e _ rfl (.tmp 15) (.tmp 17) 52 rfl w.heap.size 2 i0 _ 1 8 Try.underlying52 hi0 hz0 hz1 hz2 rfl (by decide) _ 0 [] rfl ?c0 oW P.words.length cW (P.words.map (Value.int .i64)) rfl ?c1 ?c3 ?c4 ?c5 ?_)
 case c0 => exact World.ownsRow_nil _ _ _ _
 case c1 => exact HW.out.ext X1.out
 case c3 => unfold maxLen; omega
 case c4 => omega
 case c5 => exact hws1
 intro v2 w2 hown hgrow hat
 have hgrow : (w1.setCell ⟨q, 0, none⟩ (.slice o1 P.regs.length c1)).grownBy w2 (Value.slice none 0 0).ownBlock := hgrow
 have hown : w2.ownsRow w.heap.size 2 1 v2 P.words.length (P.words.map (Value.int .i64)) := by simpa using hown
 have hat : ∀ k, v2.ownBlock = some k → (Value.slice none 0 0).ownBlock = some k ∨ (w1.setCell ⟨q, 0, none⟩ (.slice o1 P.regs.length c1)).heap.size ≤ k := fun k hk => by
  rcases hat with e | e
  ·left; rw [← e]; exact hk
  ·right; rw [e] at hk; rw [Q2a]; exact Nat.le_of_eq (Option.some.inj hk)
 have C2 := Lib.hid (C1.out.words hgrow hown hat)
 have b0 := B0.out.grown hgrow (by intro e; cases e)
 have b1 := B1.out.grown hgrow (by intro e; cases e)
 have b2 := C1.out.box.grown hgrow (by intro e; cases e)
 have B0 := Lib.hid (b0.far (p := ⟨q, 1, none⟩) hqa v2)
 have B1 := Lib.hid (b1.far (p := ⟨q, 1, none⟩) hqb v2)
 obtain ⟨o2, c2, rfl⟩ := Q0m hown
 have q1 : w2.cell? ⟨q, 1, none⟩ = some (.slice none 0 0) ∧ w2.frozen? ⟨q, 1, none⟩ = false := ⟨by rw [b2.cell]; rfl, b2.frozen _⟩
 have hql := b2.lt
 clear hown hgrow hat b0 b1 b2 q0 p1 hgl
 go_wp2_with fail
 go_loopw [4] (fun i wr => ∃ (j : Nat) (bP : Value) (bs : List Value), j ≤ P.past.length ∧ i = .int .i64 j ∧ Q2x w wr q P (.slice o1 P.regs.length c1) (.slice o2 P.words.length c2) bP bs P.regs P.words (P.past.take j) ∧ Blk wr ga 65 #[.slice oR P.regs.length cR, .slice oW P.words.length cW, .slice oP P.past.length cP, .int .i64 P.at_] ∧ Blk wr (ga + 1) 65 #[.slice none 0 0, .slice none 0 0, .slice none 0 0, .int .i64 0]) (fun i _ => P.past.length - (intOf i).toNat)
 case atStart => exact ⟨0, _, _, by omega, rfl, by simpa using C2.out, B0.out, B1.out⟩
 case round =>
  obtain ⟨j, bP, bs, hj, rfl, hC, b0, b1⟩ := hrel
  have p2 : wr.cell? ⟨ga, 2, none⟩ = some (.slice oP P.past.length cP) := by rw [b0.cell]; rfl
  have hga := b0.lt
  have hq := hC.box.lt
  have BA := Lib.hid b0
  have BB := Lib.hid b1
  have HC := Lib.hid hC
  have X := Lib.hid hC.ext
  have q2 : wr.cell? ⟨q, 2, none⟩ = some bP := by rw [hC.box.cell]; rfl
  have hjl : (P.past.take j).length = j := by rw [List.length_take]; omega
  have hout := hC.out
  rw [hjl] at hout
  obtain ⟨oB, cB, rfl⟩ := Q0m hout
  have HOut := Lib.hid hout
  have Hjl := Lib.hid hjl
  clear hC b0 b1 hjl hout
  by_cases hlt : j < P.past.length
  ·have hvs : vs.length = P.past.length := by have := HO.out.1; omega
   have hi := Qe0 (.slice oR P.regs.length cR) (.slice oW P.words.length cW) vs P (n := j) (by omega) hlt
   have hrow := HF.out.at_ hi
   obtain ⟨ol, lc, hvl⟩ := Q0m hrow
   rw [hvl] at hrow
   have Hrow := Lib.hid (Q5v hrow)
   have hll := H4.out (P.past.getD j []) (by
    have : P.past.getD j [] = P.past[j] := by simp [hlt]
    rw [this]; exact List.getElem_mem hlt)
   have Htk : Hid (P.past.take (j + 1) = P.past.take j ++ [P.past.getD j []]) := Lib.hid (by rw [List.take_succ_eq_append_getElem hlt]; simp [hlt])
   obtain ⟨ko, co, hvo, hBk, hcell⟩ := own_at' HO.out (by omega)
   simp only [Value.slice.injEq, true_and] at hvo
   obtain ⟨rfl, rfl⟩ := hvo
   obtain ⟨rc, -⟩ := hcell j _ hlt (show vs[j]? = some (.slice ol (P.past.getD j []).length lc) by rw [← hvl]; simp [show j < vs.length by omega])
   have hko := Q0s rc
   simp only at hko
   have hws := X.out.size
   generalize P.past.getD j [] = l at *
   have hix := Q8j
   have k0 : ∀ Wx, Ext wr Wx → Wx.cell? ⟨ga, 2, none⟩ = some (.slice (some ⟨ko, 0, none⟩) P.past.length cP) := fun _ h => h.kept p2
   have k1 : ∀ Wx, Ext wr Wx → Wx.cell? ⟨q, 2, none⟩ = some (.slice oB j cB) := fun _ h => h.kept q2
   have k2 : ∀ Wx, Ext wr Wx → Wx.cell? ⟨ko, j, none⟩ = some (.slice ol l.length lc) := fun _ h => h.kept (X.out.kept rc)
   go_upto_region 7 with fail
   clear hi hrow hvl hcell rc p2 q2
   refine Q27 [2, 8, 9, 10, 11, 12] 3 (by kernel_rfl) (by kernel_rfl) ?_
   repeat (first | (refine Q2r ?_ ?_; (decide)) | (refine Q2k ?_ ?_ ?_; (decide); (first | rfl | (focus (go_simp; done))); apply Exists.intro; refine ⟨fun wc hE => ?_, ?_⟩; (go_simp; exact rfl); go_simp) | (refine Q2p ?_ ?_ ?_; (decide); (focus (go_simp; done)); go_simp))
   refine Q2q ?_
   intro w3 hx
   have HX := Lib.hid hx
   have h3s := hx.size
   clear k0 k1 k2 hx
   refine Q2m rfl ?_
   go_wp2
   refine ⟨HX.out.alloc _, ?_⟩
   refine Q2m rfl ?_
   refine Q2e _ rfl (.tmp 29) (.tmp 34) 52 rfl wr.heap.size 2 i0 _ 1 8 Try.underlying52 hi0 hz0 hz1 hz2 rfl (by decide) _ 0 [] rfl ?c0 ol l.length lc (l.map (Value.int .i64)) rfl ?c1 ?c3 ?c4 ?c5 ?_
   case c0 =>
    have h := World.ownsRow_lit (base := wr.heap.size) (e := 2) (size := 1) w3 #[] 0 h3s (by decide) rfl
    simpa [Act.eval] using h
   case c1 => exact Hrow.out.ext ((X.out.trans HX.out).alloc _)
   case c3 => unfold maxLen; omega
   case c4 => omega
   case c5 => simp; omega
   intro v4 w4 hown hgrow hat
   obtain ⟨o4, c4, rfl⟩ := Q0m hown
   have X4 : Hid (Ext wr w4) := Lib.hid ((HX.out.alloc _).grown hgrow (by
    intro k hk
    simp [Act.eval, Value.ownBlock] at hk
    omega))
   have H4o : Hid (w4.ownsRow wr.heap.size 2 1 (.slice o4 l.length c4) l.length (l.map (Value.int .i64))) := Lib.hid (by simpa using hown)
   clear hown hgrow hat
   go_wp2
   refine ⟨X4.out, ?_⟩
   refine Q2m rfl ?_
   go_wp2
   refine ⟨X4.out.alloc _, ?_⟩
   have hC5 := HC.out.extend (X4.out.alloc (.cells #[.slice o4 l.length c4] 52))
   have h4s := X4.out.size
   have hjb : bs.length = j := by have := HOut.out.1; omega
   refine Q20 (Q0j rfl (Q0j rfl (Q0j rfl (Q24)))) ?_
   refine Q2e _ rfl (.tmp 28) (.tmp 36) 26 rfl w.heap.size 52 j0 _ 1 24 Try.underlying26 hj0 hy0 hy1 hy2 rfl (by decide) _ j bs rfl (Q3t (Q1m HOut.out X4.out)) (some ⟨w4.heap.size, 0, none⟩) 1 1 [.slice o4 l.length c4] rfl ?d1 ?d3 ?d4 ?d5 ?_
   case d1 => exact Q3l (size := 1) (Blk.new w4 52 #[.slice o4 l.length c4]) rfl (by simp [Value.oneCell'])
   case d3 => unfold maxLen; omega
   case d4 => omega
   case d5 => simp; omega
   intro v5 w5 hown hgrow hat
   obtain ⟨o5, c5, rfl⟩ := Q0m hown
   have hgrow : (w4.alloc (.cells #[.slice o4 l.length c4] 52)).grownBy w5 (Value.slice oB j cB).ownBlock := hgrow
   have hP := HC.out.push (X4.out.alloc (.cells #[.slice o4 l.length c4] 52)) (Q3t H4o.out) hgrow (by rw [Hjl.out]; exact hown)
   have HP := Lib.hid hP
   have ha5 := (BA.out.ext (X4.out.alloc (.cells #[.slice o4 l.length c4] 52))).grown hgrow (Q06 HOut.out BA.out (by decide))
   have hb5 := (BB.out.ext (X4.out.alloc (.cells #[.slice o4 l.length c4] 52))).grown hgrow (Q06 HOut.out BB.out (by decide))
   have hq5 := hC5.box.grown hgrow (Q06 hC5.out hC5.box (by decide))
   have HA := Lib.hid (ha5.far (p := ⟨q, 2, none⟩) hqa (.slice o5 (j + 1) c5))
   have HB := Lib.hid (hb5.far (p := ⟨q, 2, none⟩) hqb (.slice o5 (j + 1) c5))
   have q2 : w5.cell? ⟨q, 2, none⟩ = some (.slice oB j cB) ∧ w5.frozen? ⟨q, 2, none⟩ = false := ⟨by rw [hq5.cell]; rfl, hq5.frozen _⟩
   have hql5 := hq5.lt
   clear hown hgrow hat hP ha5 hb5 hq5 hC5
   go_wp2
   go_roundw
   case rel => exact ⟨j + 1, _, _, by omega, by go_num, by rw [Htk.out]; exact HP.out, HA.out, HB.out⟩
   case measure => first | (simp [intOf]; done) | (simp [intOf]; omega)
  ·have hje : j = P.past.length := by omega
   subst hje
   have hlt2 : decide ((P.past.length : Int) < (P.past.length : Int)) = false := by simp
   have hqs : ∀ i, wr.frozen? ⟨ga + 1, i, none⟩ = false := fun i => BB.out.frozen i
   have r0 : wr.cell? ⟨ga + 1, 0, none⟩ = some (.slice none 0 0) ∧ wr.frozen? ⟨ga + 1, 0, none⟩ = false := ⟨by rw [BB.out.cell]; rfl, hqs _⟩
   have r1 : wr.cell? ⟨ga + 1, 1, none⟩ = some (.slice none 0 0) ∧ wr.frozen? ⟨ga + 1, 1, none⟩ = false := ⟨by rw [BB.out.cell]; rfl, hqs _⟩
   have r2 : wr.cell? ⟨ga + 1, 2, none⟩ = some (.slice none 0 0) ∧ wr.frozen? ⟨ga + 1, 2, none⟩ = false := ⟨by rw [BB.out.cell]; rfl, hqs _⟩
   have r3 : wr.cell? ⟨ga + 1, 3, none⟩ = some (.int .i64 0) ∧ wr.frozen? ⟨ga + 1, 3, none⟩ = false := ⟨by rw [BB.out.cell]; rfl, hqs _⟩
   have q0 : wr.cell? ⟨q, 0, none⟩ = some (.slice o1 P.regs.length c1) := by rw [HC.out.box.cell]; rfl
   have q1 : wr.cell? ⟨q, 1, none⟩ = some (.slice o2 P.words.length c2) := by rw [HC.out.box.cell]; rfl
   have q3 : wr.cell? ⟨q, 3, none⟩ = some (.int .i64 P.at_) := by rw [HC.out.box.cell]; rfl
   have hrl := BB.out.lt
   have hF := HC.out.fam
   have hb := BB.out
   rw [List.take_length] at hF
   have HF2 := Lib.hid (((((hF.far hb (by decide) 0 (.slice o1 P.regs.length c1)).far (hb.set_ 0 _) (by decide) 1 (.slice o2 P.words.length c2)).far ((hb.set_ 0 _).set_ 1 _) (by decide) 2 (.slice oB P.past.length cB)).far (((hb.set_ 0 _).set_ 1 _).set_ 2 _) (by decide) 3 (.int .i64 P.at_)))
   have hne := Q06 HOut.out hb (by decide)
   have HO2 := Lib.hid (Q0o (p := ⟨ga + 1, 3, none⟩) (Q0o (p := ⟨ga + 1, 2, none⟩) (Q0o (p := ⟨ga + 1, 1, none⟩) (Q0o (p := ⟨ga + 1, 0, none⟩) HOut.out hne (.slice o1 P.regs.length c1)) hne (.slice o2 P.words.length c2)) hne (.slice oB P.past.length cB)) hne (.int .i64 P.at_))
   have hgw : w.heap.size ≤ ga + 1 := by have := Hga.out; omega
   have HX2 := Lib.hid ((((X.out.setCell (p := ⟨ga + 1, 0, none⟩) hgw (.slice o1 P.regs.length c1)).setCell (p := ⟨ga + 1, 1, none⟩) hgw (.slice o2 P.words.length c2)).setCell (p := ⟨ga + 1, 2, none⟩) hgw (.slice oB P.past.length cB)).setCell (p := ⟨ga + 1, 3, none⟩) hgw (.int .i64 P.at_))
   have HB2 := Lib.hid ((((hb.set_ 0 (.slice o1 P.regs.length c1)).set_ 1 (.slice o2 P.words.length c2)).set_ 2 (.slice oB P.past.length cB)).set_ 3 (.int .i64 P.at_))
   clear hF hb hne hgw hqs
   go_wp2
   exact bodyPost_ret (Q5y HB2.out rfl _ rfl Try.underlying65 rfl (by kernel_rfl)) rfl ⟨_, _, _, _, rfl, HF2.out, HO2.out, HX2.out⟩
set_option maxHeartbeats 4000000 in
theorem Q7x {wB w : World} {g : Nat} {vG vC : Value} {V : RV} {S : Spc} {p : Q01} {n : Nat} (h : RSt wB w g vG vC V S) (hp : PlOk p n S.pl) (ht : Q0b p ≤ 1000000) (hn : n ≤ 1000000) :
  Calls Try.prog 48 #[.pointer (some ⟨g, 0, none⟩)] w (Q5n wB w g vG vC S.leave (.tuple #[])) := by
 have hgl := h.box.lt
 have g12 : w.cell? ⟨g, 12, none⟩ = some (.bool S.ahead) ∧ w.frozen? ⟨g, 12, none⟩ = false := ⟨by rw [h.box.cell]; rfl, h.box.frozen _⟩
 have H := Lib.hid h
 cases ha : S.ahead
 ·have g13 : w.cell? ⟨g, 13, none⟩ = some (.int .i64 S.since) ∧ w.frozen? ⟨g, 13, none⟩ = false := ⟨by rw [h.box.cell]; rfl, h.box.frozen _⟩
  have g0 : w.cell? ⟨g, 0, none⟩ = some V.vR := by rw [h.box.cell]; rfl
  have g1 : w.cell? ⟨g, 1, none⟩ = some V.vW := by rw [h.box.cell]; rfl
  have g2 : w.cell? ⟨g, 2, none⟩ = some V.vP := by rw [h.box.cell]; rfl
  have g3 : w.cell? ⟨g, 3, none⟩ = some (.int .i64 S.pl.at_) := by rw [h.box.cell]; rfl
  rw [ha] at g12
  have Ha := Lib.hid ha
  have b1 := h.box.set_ 12 (.bool true)
  have b2 := b1.set_ 13 (.int .i64 (-1))
  have c1 := (h.core.box h.box h.hg 12 (.bool true)).box b1 h.hg 13 (.int .i64 (-1))
  have hf1 : Fam ((w.setCell ⟨g, 12, none⟩ (.bool true)).setCell ⟨g, 13, none⟩ (.int .i64 (-1))) wB.heap.size (Q1l V.vR V.vW V.vs S.pl) := by
   have := c1.fam
   unfold Q1z at this
   rw [if_neg (by rw [ha]; simp), List.append_nil] at this
   exact this
  have CC := Qia S.pl V.vR V.vW V.vP V.vs wB.heap.size _ hf1 c1.out (by rw [hp.len]; omega) (by rw [hp.wlen]; exact ht) (by rw [hp.plen]; exact ht) (fun l hl => Nat.le_trans (hp.past l hl).1 hn)
  have CC := Lib.hid CC
  have BB := Lib.hid b2
  clear h ha b1 b2 c1 hf1
  go_enter Try.func48, Try.ntmps48
  go_wp2_with fail
  (with_reducible refine CC.out.mono ?_)
  clear CC
  rintro e w1 ⟨bR, bW, bP, bs, rfl, hF, hO, hx⟩
  rw [Q2a, Q2a] at hF hO
  obtain ⟨oa, ca, rfl⟩ := Q0m (hF.at_ (i := 0) rfl)
  obtain ⟨ob, cb, rfl⟩ := Q0m (hF.at_ (i := 1) rfl)
  obtain ⟨oc, cc, rfl⟩ := Q0m hO
  obtain ⟨h2, T2⟩ := H.out.leave_ Ha.out hx hF hO
  have H2 := Lib.hid h2
  have T2 := Lib.hid T2
  have b3 := BB.out.ext hx
  have cf : ∀ i, w1.frozen? ⟨g, i, none⟩ = false := fun i => b3.frozen i
  have g14 : w1.cell? ⟨g, 14, none⟩ = some V.bR ∧ w1.frozen? ⟨g, 14, none⟩ = false := ⟨by rw [b3.cell]; rfl, cf _⟩
  have g15 : w1.cell? ⟨g, 15, none⟩ = some V.bW ∧ w1.frozen? ⟨g, 15, none⟩ = false := ⟨by rw [b3.cell]; rfl, cf _⟩
  have g16 : w1.cell? ⟨g, 16, none⟩ = some V.bP ∧ w1.frozen? ⟨g, 16, none⟩ = false := ⟨by rw [b3.cell]; rfl, cf _⟩
  have g17 : w1.cell? ⟨g, 17, none⟩ = some (.int .i64 S.back.at_) ∧ w1.frozen? ⟨g, 17, none⟩ = false := ⟨by rw [b3.cell]; rfl, cf _⟩
  have hgl := b3.lt
  clear hF hO hx h2 b3 cf g0 g1 g2 g3 g12 g13
  go_wp2
  refine bodyPost_end (results_none rfl _ _ _) rfl ?_
  exact ⟨rfl, _, H2.out, T2.out⟩
 ·have hs : S.leave = S := by unfold Spc.leave; rw [if_pos ha]
  have Hs := Lib.hid hs
  rw [ha] at g12
  clear h ha hs
  go_enter Try.func48, Try.ntmps48
  go_wp2
  refine bodyPost_end (results_none rfl _ _ _) rfl ?_
  rw [Hs.out]
  exact ⟨rfl, _, H.out, Q03.refl _⟩
end Go.Proofs.Ytalpnmjaafcpoaa
