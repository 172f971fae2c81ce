/- Laid together from: SpcD. -/
import Derived.Test.YtceocimckkgaoaaFindSameB27
import Derived.Test.YtceocimckkgaoaaFindSameB23
import Derived.Shelf.Abstract

namespace Go.Proofs.Ytceocimckkgaoaa
open Go.ChangeShapes Go.WideShapes Go.ChangeAt Go.RowKit
set_option linter.unusedVariables false
set_option linter.unusedSimpArgs false
def negs (l : List Int) : Bool := l.any fun x => decide (x < 0)
theorem Q5u (l : List Int) : Q2i l = (decide (l.length ≤ 2000) && !negs l) := by
 unfold Q2i negs
 congr 1
 induction l with
 | nil => rfl
 | cons x l ih =>
  rw [List.all_cons, List.any_cons, ih]
  by_cases h : x < 0
  ·have : ¬ 0 ≤ x := by omega
   simp [h, this]
  ·have : 0 ≤ x := by omega
   simp [h, this]
theorem Qbs {l : List Int} (h : ∀ k, k < l.length → 0 ≤ l.getD k default) : negs l = false := by
 unfold negs
 rw [List.any_eq_false]
 intro x hx
 obtain ⟨k, hk, rfl⟩ := List.getElem_of_mem hx
 have := h k hk
 simp only [List.getD_eq_getElem?_getD, List.getElem?_eq_getElem hk, Option.getD_some] at this
 simpa using this
theorem Qbr {l : List Int} {k : Nat} (hk : k < l.length) (h : l.getD k default < 0) : negs l = true := by
 unfold negs
 rw [List.any_eq_true]
 exact ⟨_, Q1s hk, by simpa using h⟩
theorem Q3s (x : Int) (w : World) : Calls Try.prog 17 #[.int .i64 x] w fun e w' => e = .returned (.bool (decide (x < 0))) ∧ w = w' := by
 go_enter Try.func17, Try.ntmps17
 go_wp2
 go_ret
 exact ⟨rfl, rfl⟩
def Qeh (l : List Int) (w : World) (e : Ending) (w' : World) : Prop := ∃ x : Int, e = .returned (.int .i64 x) ∧ decide (0 ≤ x) = negs l ∧ Ext w w'
set_option maxHeartbeats 2000000 in
theorem Qd8 (l : List Int) (v : Value) (w : World) (h : Q1c w v l) :
  Calls Try.prog 33 #[v, .func (.func 17) #[] #[]] w (Qeh l w) := by
 obtain ⟨h64, oa, cap, b, o, rfl, hc1, hc2, hrow⟩ := h
 have hix := Q2v (cap := cap) hrow.at_
 have hlen := Q2d hc1 hc2
 have Hrow := Lib.hid hrow
 have eg : ∀ args w, (callFunc 17 args).run Try.prog w = .ok (.enter 17 args) w := enters_of Try.func17 (by kernel_rfl) rfl
 clear hrow h64
 go_enter Try.func33, Try.ntmps33
 go_wp2_with fail
 go_loopw [5, 8] (fun _ i wr => ∃ j : Nat, j ≤ l.length ∧ i = .int .i64 j ∧ (∀ k, k < j → 0 ≤ l.getD k default) ∧ Ext w wr) (fun _ i _ => l.length - (intOf i).toNat)
 case atStart => exact ⟨0, by omega, rfl, fun k hk => by omega, Ext.refl _⟩
 case round =>
  obtain ⟨j, hj, rfl, hall, hE⟩ := hrel
  have Hall := Lib.hid hall
  have X := Lib.hid hE
  clear hall
  by_cases hlt : j < l.length
  ·have e0 := (Hrow.out.ext hE).one j hlt
   have hbl := Q0m e0
   simp only at hbl
   clear hE
   by_cases hn : l.getD j default < 0
   ·have Ho := Lib.hid (Qbr hlt hn)
    have hd2 : decide (l.getD j default < 0) = true := by simpa using hn
    generalize l.getD j default = x at *
    have C := Q3s x wr
    rw [hd2] at C
    go_wp2_with (go_at_fn 17; refine C.mono ?_; rintro e w' ⟨rfl, rfl⟩)
    go_ret
    exact ⟨_, rfl, by rw [Ho.out]; simp, X.out⟩
   ·have hd2 : decide (l.getD j default < 0) = false := by simpa using hn
    have Hn : Hid (0 ≤ l.getD j default) := Lib.hid (by omega)
    generalize hx : l.getD j default = x at *
    have Hx := Lib.hid hx
    have C := Q3s x wr
    rw [hd2] at C
    clear hn hx
    go_wp2_with (go_at_fn 17; refine C.mono ?_; rintro e w' ⟨rfl, rfl⟩)
    go_roundw
    case rel => exact ⟨j + 1, by omega, by go_num, fun k hk => by
     rcases Nat.lt_or_ge k j with h | h
     ·exact Hall.out k h
     ·obtain rfl : k = j := by omega
      rw [Hx.out]; exact Hn.out, X.out⟩
    case measure => first | (simp [intOf]; done) | (simp [intOf]; omega)
  ·have hje : j = l.length := by omega
   subst hje
   have Ho := Lib.hid (Qbs Hall.out)
   have hlt2 : decide ((l.length : Int) < (l.length : Int)) = false := by simp
   go_wp2
   go_ret
   exact ⟨_, rfl, by rw [Ho.out]; rfl, X.out⟩
theorem Qe0 (l : List Int) (v : Value) (w : World) (h : Q1c w v l) :
  Calls Try.prog 16 #[v, .func (.func 17) #[] #[]] w fun e w' => e = .returned (.bool (negs l)) ∧ Ext w w' := by
 have H := Lib.hid h
 obtain ⟨h64, oa, cap, b, o, rfl, hc1, hc2, hrow⟩ := h
 clear hrow h64 hc1 hc2
 go_enter Try.func16, Try.ntmps16
 go_wp2_with fail
 have C := Qd8 l _ w H.out
 (with_reducible refine C.mono ?_)
 clear C
 rintro e w1 ⟨x, rfl, hn, hx⟩
 have X := Lib.hid hx
 have Hn := Lib.hid hn
 clear hx hn
 go_wp2
 go_ret
 exact ⟨by rw [← Hn.out]; rfl, X.out⟩
def begV (vW vX : Value) (bm : Nat) : QV := ⟨.slice none 0 0, vW, vX, .slice none 0 0, [], [], bm, none, List.replicate 10 0, 0, 0⟩
theorem Qb1 {wB w2 : World} {g N : Nat} {vR vC vB vW vX : Value} {bases ws script : List Int} (h : MSt w2 wB.heap.size g vR vC (.slice none 0 0) vB (.slice none 0 0) vW bases (Q04 ws)) (hx : Ext wB w2) (hN : ws.length = N) (hs : Q1c wB vX script) :
  QSt wB ((w2.alloc (.map #[] 0)).alloc (.cells (Q0v g (begV vW vX w2.heap.size) (Q0p ws script)).toArray 61)) N g (w2.heap.size + 1) vR vC vB bases (begV vW vX w2.heap.size) (Q0p ws script) := by
 have X3 : Ext w2 ((w2.alloc (.map #[] 0)).alloc (.cells (Q0v g (begV vW vX w2.heap.size) (Q0p ws script)).toArray 61)) := ((Ext.refl _).alloc _).alloc _
 have hbx := Blk.new (w2.alloc (.map #[] 0)) 61 (Q0v g (begV vW vX w2.heap.size) (Q0p ws script)).toArray
 rw [show (w2.alloc (.map #[] 0)).heap.size = w2.heap.size + 1 by simp] at hbx
 have hsz := hx.size
 refine ⟨h.ext X3, hbx, ⟨fun x hx' => ?_, List.pairwise_singleton _ _⟩, (Q8h w2).ext ((Ext.refl _).alloc _), ⟨?_, fun x hx' => (by cases hx'), fun n hn => ?_⟩, fun e => (by cases e), rfl, hs, hx.trans X3, by omega, hsz⟩
 ·simp only [Q1j, Q0q, begV, Q0p, List.map_nil, Bool.false_eq_true, if_false, List.append_nil, List.mem_singleton] at hx'
  subst hx'
  exact Q27 h.ws X3
 ·simp [Q0p, hN]
 ·simp [Q0p, Q17, begV, hN, hn]
theorem QSt.end_ {wB w w2 : World} {N g r : Nat} {vR vC vB : Value} {bases : List Int} {V : QV} {S : Spc} (h : QSt wB w N g r vR vC vB bases V S) (ha : S.ahead = true) (hx : Ext w w2) :
  MSt (w2.setCells g 7 (stL V.bR V.bW V.bA)) wB.heap.size g vR vC (.slice none 0 0) vB V.vS V.bW bases (Q0r (endS S)) ∧ Ext wB (w2.setCells g 7 (stL V.bR V.bW V.bA)) ∧
   (w2.setCells g 7 (stL V.bR V.bW V.bA)).cell? ⟨r, 0, none⟩ = some (.pointer (some ⟨g, 0, none⟩)) := by
 obtain ⟨⟨bb, hb1, hb2, hb3, hb4⟩, hp, hrg, hat, hlf⟩ := h.back ha
 have T : Turn (fun j => j = g) w (w2.setCells g 7 (stL V.bR V.bW V.bA)) := (Turn.ofExt (S := fun j => j = g) hx).trans (Turn.cells (stL V.bR V.bW V.bA) _ g 7) (fun _ _ e => e)
 have hmx := (h.mach.box.ext hx).setCells (stL V.bR V.bW V.bA) 7
 have hbx := (h.box.ext hx).farCells (stL V.bR V.bW V.bA) h.rg 7
 have e0 : Q1p (Q05 vR vC (Q0r S).fin (Q0r S).value (Q0r S).steps V.vS (.slice none 0 0) (Q0r S).regs V.vW (Q0r S).at_ vB).toArray 7 (stL V.bR V.bW V.bA) = (Q05 vR vC (Q0r S).fin (Q0r S).value (Q0r S).steps V.vS (.slice none 0 0) V.bR V.bW S.back.at_ vB).toArray := by
  rw [hat]
  exact Q55 h.mach.len h.ten
 rw [e0] at hmx
 have hf0 : Fam w wB.heap.size ((V.bW, S.back.words) :: Q0q V.GB) := by
  refine h.fam.sub ?_
  unfold Q1j
  rw [if_pos ha]
  exact List.sublist_append_right _ _
 have hws := hf0.at_ (i := 0) rfl
 have hown : ∀ {B : Nat} {e : TypeId} {s n : Nat} {v : Value} {xs : List Value}, w.ownsRow B e s v n xs → e ≠ 63 → ∀ k, v.ownBlock = some k → ¬ (k = g) := by
  rintro B e s n v xs ho h2 k hk e
  exact Q0d ho h.mach.box h2 (by rw [hk, e])
 have hE : endS S = { S with pl := S.back } := by unfold endS; rw [if_pos ha]
 refine ⟨?_, Below.trans h.ext (T.below h.ext.size (by
   rintro j rfl
   exact h.mach.hg)), by rw [hbx.cell]; rfl⟩
 rw [hE]
 refine ⟨?_, Q26 h.mach.sn T (hown h.mach.sn (by decide)), Q26 hws T (hown hws (by decide)), Q26 h.mach.bs T (hown h.mach.bs (by decide)), by show S.back.regs.length = 10; rw [← hrg]; exact h.ten, h.mach.hg⟩
 rw [hrg] at hmx
 rw [hrg]
 exact hmx
theorem Qdp {p : Q00} {S : Spc} (h : SOk p S) : MOk p (Q0r (endS S)) := by
 unfold endS
 split
 ·rename_i ha
  have b := h.mid.back ha
  exact ⟨b.len, b.r64, b.wlen, b.w64⟩
 ·have b := h.mid.pl
  exact ⟨b.len, b.r64, b.wlen, b.w64⟩
def Q3j (w : World) (g r fuel : Nat) : Nat := 2 * (fuel - Q4g w g) + (match w.cell? ⟨r, 3, none⟩ with | some (.bool true) => 1 | _ => 0)
theorem Q5z {wB w : World} {N g r : Nat} {vR vC vB : Value} {bases : List Int} {V : QV} {S : Spc} (h : QSt wB w N g r vR vC vB bases V S) (fuel : Nat) : Q3j w g r fuel = 2 * (fuel - S.steps) + bN S.ahead := by
 have g3 : w.cell? ⟨r, 3, none⟩ = some (.bool S.ahead) := by rw [h.box.cell]; rfl
 have e := Qcb h.mach
 unfold Q3j
 rw [e, g3]
 show 2 * (fuel - S.steps) + _ = _
 cases S.ahead <;> simp [bN]
end Go.Proofs.Ytceocimckkgaoaa
