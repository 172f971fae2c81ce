/- Laid together from: HardP, Sim, FenceP, LoadP, WordP, LoadQ, LoadS, Ref6P. -/
import Derived.Test.YteiknefajlocoaaLoadQuietB13
import Derived.Test.YteiknefajlocoaaLoadQuietB6

namespace Go.Proofs.Yteiknefajlocoaa
open Go.RowKit
set_option linter.unusedSimpArgs false
set_option linter.unusedVariables false
section
variable {α β : Type}
def plc (f : α → List β) (l : List α) (k : Nat) : Nat := ((l.take k).flatMap f).length
theorem Qn1 (f : α → List β) (l : List α) : plc f l 0 = 0 := by simp [plc]
theorem Q9o (f : α → List β) (l : List α) {k : Nat} {x : α} (h : l[k]? = some x) : plc f l (k + 1) = plc f l k + (f x).length := by
 obtain ⟨hk, rfl⟩ := List.getElem?_eq_some_iff.1 h
 unfold plc
 rw [List.take_succ_eq_append_getElem hk, List.flatMap_append]
 simp
theorem Qbl (f : α → List β) (l : List α) {k : Nat} (h : l.length ≤ k) : plc f l k = (l.flatMap f).length := by
 unfold plc
 rw [List.take_of_length_le h]
theorem Qn2 (f : α → List β) (l : List α) {j k : Nat} (h : j ≤ k) : plc f l j ≤ plc f l k := by
 obtain ⟨d, rfl⟩ : ∃ d, k = j + d := ⟨k - j, by omega⟩
 unfold plc
 rw [List.take_add, List.flatMap_append, List.length_append]
 omega
theorem Qct (f : α → List β) (l : List α) {k : Nat} {x : α} (h : l[k]? = some x) (j : Nat) (hj : j < (f x).length) : (l.flatMap f)[plc f l k + j]? = (f x)[j]? := by
 obtain ⟨hk, rfl⟩ := List.getElem?_eq_some_iff.1 h
 have e : l = l.take k ++ l[k] :: l.drop (k + 1) := by
  rw [← List.drop_eq_getElem_cons hk, List.take_append_drop]
 have e2 : l.flatMap f = (l.take k).flatMap f ++ (f l[k] ++ (l.drop (k + 1)).flatMap f) := by
  conv => lhs; rw [e]
  rw [List.flatMap_append, List.flatMap_cons]
 rw [e2]
 unfold plc
 rw [List.getElem?_append_right (by omega), Nat.add_sub_cancel_left, List.getElem?_append_left hj]
theorem Qex (f : α → List β) (hf : ∀ x, f x ≠ []) (l : List α) {k : Nat} (h : k < l.length) : plc f l k < (l.flatMap f).length := by
 have h1 := Q9o f l (List.getElem?_eq_getElem h)
 have h2 := Qn2 f l (show k + 1 ≤ l.length by omega)
 rw [Qbl f l (Nat.le_refl _)] at h2
 have := List.length_pos_iff.2 (hf l[k])
 omega
theorem Q6j (f : α → List β) (c : Nat) : ∀ (l : List α), (∀ x ∈ l, (f x).length ≤ c) → (l.flatMap f).length ≤ c * l.length
 | [], _ => by simp
 | x :: l, h => by
  have h1 := h x (by simp)
  have h2 := Q6j f c l fun y hy => h y (by simp [hy])
  rw [List.flatMap_cons, List.length_append, List.length_cons, Nat.mul_succ]
  omega
theorem Q8z (f : α → List β) : ∀ (l : List α) (q : Nat), q < (l.flatMap f).length → ∃ k x j, l[k]? = some x ∧ j < (f x).length ∧ q = plc f l k + j
 | [], q, h => by simp at h
 | x :: l, q, h => by
  rcases Nat.lt_or_ge q (f x).length with h1 | h1
  ·exact ⟨0, x, q, by simp, h1, by simp [plc]⟩
  ·rw [List.flatMap_cons, List.length_append] at h
   obtain ⟨k, y, j, e1, e2, e3⟩ := Q8z f l (q - (f x).length) (by omega)
   refine ⟨k + 1, y, j, by simpa using e1, e2, ?_⟩
   unfold plc at e3 ⊢
   rw [List.take_succ_cons, List.flatMap_cons, List.length_append]
   omega
end
def Q15 (p : Q01) (i : LIns) : List LIns :=
 if i.op = 3 ∨ i.op = 4 then [⟨10, 8, i.b, 0, i.n⟩, ⟨11, 8, 0, 0, ((Q0b (Q08 p i) : Nat) : Int)⟩, ⟨i.op, i.a, 8, i.c, 0⟩] else [i]
def Q0x (f : Nat → Nat) (i : LIns) : LIns := if i.op = 7 ∨ i.op = 8 then { i with n := (f i.n.toNat : Nat) } else i
def rawH (p : Q01) : List LIns := p.code.flatMap (Q15 p)
def Q0j (p : Q01) (k : Nat) : Nat := plc (Q15 p) p.code k
def Q06 (p : Q01) : Q01 := ⟨p.regs, (rawH p).map (Q0x (Q0j p))⟩
theorem Qrp (p : Q01) (i : LIns) : Q15 p i ≠ [] := by unfold Q15; split <;> simp
theorem Q6l (p : Q01) (i : LIns) : (Q15 p i).length = if i.op = 3 ∨ i.op = 4 then 3 else 1 := by unfold Q15; split <;> rfl
theorem Qcp (p : Q01) : (Q06 p).code.length ≤ 3 * p.code.length := by
 simp only [Q06, rawH, List.length_map]
 refine Q6j (Q15 p) 3 p.code fun x _ => ?_
 rw [Q6l]
 split <;> omega
theorem Q5p {f : Nat → Nat} {i : LIns} (h : ¬ (i.op = 7 ∨ i.op = 8)) : Q0x f i = i := by unfold Q0x; rw [if_neg h]
theorem Q7m {p : Q01} {k : Nat} (h : k < p.code.length) : Q0j p k < (Q06 p).code.length := by
 simp only [Q06, rawH, List.length_map]
 exact Qex _ (Qrp p) _ h
theorem Qn5 {p : Q01} {k : Nat} (h : p.code.length ≤ k) : Q0j p k = (Q06 p).code.length := by
 simp only [Q06, rawH, List.length_map]
 exact Qbl _ _ h
theorem Q8y {p : Q01} {k : Nat} {i : LIns} (h : p.code[k]? = some i) (h3 : ¬ (i.op = 3 ∨ i.op = 4)) : (Q06 p).code[Q0j p k]? = some (Q0x (Q0j p) i) ∧ Q0j p (k + 1) = Q0j p k + 1 := by
 have e : Q15 p i = [i] := by unfold Q15; rw [if_neg h3]
 have h1 := Qct (Q15 p) p.code h 0 (by rw [e]; simp)
 have h2 := Q9o (Q15 p) p.code h
 rw [e] at h1 h2
 refine ⟨?_, h2⟩
 simp only [Q06, rawH, List.getElem?_map]
 have h1' : (p.code.flatMap (Q15 p))[Q0j p k]? = some i := by simpa [Q0j] using h1
 rw [h1']; rfl
theorem Q63 {p : Q01} {k : Nat} {i : LIns} (h : p.code[k]? = some i) (h3 : i.op = 3 ∨ i.op = 4) :
  (Q06 p).code[Q0j p k]? = some ⟨10, 8, i.b, 0, i.n⟩ ∧ (Q06 p).code[Q0j p k + 1]? = some ⟨11, 8, 0, 0, ((Q0b (Q08 p i) : Nat) : Int)⟩ ∧ (Q06 p).code[Q0j p k + 2]? = some ⟨i.op, i.a, 8, i.c, 0⟩ ∧ Q0j p (k + 1) = Q0j p k + 3 := by
 have e : Q15 p i = [⟨10, 8, i.b, 0, i.n⟩, ⟨11, 8, 0, 0, ((Q0b (Q08 p i) : Nat) : Int)⟩, ⟨i.op, i.a, 8, i.c, 0⟩] := by unfold Q15; rw [if_pos h3]
 have g := fun j hj => Qct (Q15 p) p.code h j (by rw [e]; exact hj)
 have h2 := Q9o (Q15 p) p.code h
 rw [e] at h2
 simp only [e] at g
 have m : ∀ (q : Nat) (x : LIns), (p.code.flatMap (Q15 p))[q]? = some x → ¬ (x.op = 7 ∨ x.op = 8) → (Q06 p).code[q]? = some x := by
  intro q x hq hx
  simp only [Q06, rawH, List.getElem?_map, hq, Option.map_some, Q5p hx]
 refine ⟨m _ _ (by simpa [Q0j] using g 0 (by simp)) (by simp), m _ _ (by simpa [Q0j] using g 1 (by simp)) (by simp), m _ _ (by simpa [Q0j] using g 2 (by simp)) ?_, h2⟩
 show ¬ (i.op = 7 ∨ i.op = 8)
 omega
theorem Qgk {p q : Q01} (hr : p.regs = q.regs) {R : Int} {i : LIns} (h : Q00 p R i = true) (h7 : ¬ (i.op = 7 ∨ i.op = 8)) : Q00 q R i = true := by
 simp only [Q00] at *
 rw [← hr]
 by_cases e7 : i.op = 7
 ·omega
 by_cases e8 : i.op = 8
 ·omega
 simp only [e7, e8, if_false] at *
 exact h
theorem Qco {p : Q01} (hm : Q1x p = true) : Q3m (Q06 p) = true := by
 obtain ⟨m1, m2, m3, m4⟩ := Q3x hm
 have hl := Qcp p
 have hpos := Q7m (p := p) (k := 0) (by omega)
 simp only [Q3m, Q3v, Bool.and_eq_true, decide_eq_true_eq, List.all_eq_true]
 refine ⟨⟨⟨m1, by omega⟩, by omega⟩, fun x hx => ?_⟩
 obtain ⟨q, hq, rfl⟩ := List.getElem_of_mem hx
 have hq' : q < (p.code.flatMap (Q15 p)).length := by simpa [Q06, rawH] using hq
 obtain ⟨k, i, j, h1, h2, h3⟩ := Q8z (Q15 p) p.code q hq'
 have hi := m4 i (List.mem_of_getElem? h1)
 have hi10 := Qq6 (S := 10) (by omega) hi
 obtain ⟨g1, g2, g10, g3, g5, g8, g9, g11, go, g7, gop⟩ := Q2t hi
 suffices h : ∀ y, (Q06 p).code[q]? = some y → Q00 (Q06 p) 10 y = true from h _ (List.getElem?_eq_getElem hq)
 intro y hy
 by_cases e3 : i.op = 3 ∨ i.op = 4
 ·obtain ⟨a1, a2, a3, a4⟩ := Q63 h1 e3
  rw [Q6l, if_pos e3] at h2
  have hb := g3 e3
  have hc := (Q2p hi (by simp only [Q10, Q18, Bool.or_eq_true, decide_eq_true_eq]; omega))
  have hw := Q5k (Q08 p i) (Q55 m1 (Q08 p i) (by unfold Q08; simp [hc.2])).2
  have hw0 := Qdc (Q08 p i)
  simp only [Q05] at hb
  have hj : j = 0 ∨ j = 1 ∨ j = 2 := by omega
  have hcr : i.c < p.regs.length := by omega
  unfold Q0j at a1 a2 a3
  rcases hj with rfl | rfl | rfl
  ·rw [h3, Nat.add_zero, a1] at hy
   obtain rfl := Option.some.inj hy
   simp [Q00, okIn]; omega
  ·rw [h3, a2] at hy
   obtain rfl := Option.some.inj hy
   simp [Q00, okIn]; omega
  ·rw [h3, a3] at hy
   obtain rfl := Option.some.inj hy
   have hrl : (Q06 p).regs.length = p.regs.length := rfl
   rcases e3 with e | e <;> simp [Q00, okIn, e] <;> omega
 ·obtain ⟨a1, a2⟩ := Q8y h1 e3
  rw [Q6l, if_neg e3] at h2
  obtain rfl : j = 0 := by omega
  unfold Q0j at a1
  rw [h3, Nat.add_zero, a1] at hy
  obtain rfl := Option.some.inj hy
  by_cases e7 : i.op = 7 ∨ i.op = 8
  ·have ht := Q7m (g7 e7).2
   unfold Q0j at ht
   unfold Q0x
   rw [if_pos e7]
   simp only [Q00] at hi10 ⊢
   rcases e7 with e | e
   ·simp [e, okIn] at hi10 ⊢; refine ⟨?_, ?_⟩ <;> omega
   ·simp [e, okIn] at hi10 ⊢; omega
  ·rw [Q5p e7]
   exact Qgk (p := p) (q := Q06 p) rfl hi10 e7
def Q23 (s : KSt) : Lab := fun r => if r < 8 then (s.getD r default).sec else true
inductive AnnH (p : Q01) (T : Tab) : Nat → Lab → Option (Int × Int) → Prop
 | at_ (k : Nat) (s : KSt) (h : tg T k = some s) : AnnH p T (Q0j p k) (Q23 s) none
 | mask (k : Nat) (s : KSt) (i : LIns) (h : tg T k = some s) (hi : p.code[k]? = some i) (h3 : i.op = 3 ∨ i.op = 4) : AnnH p T (Q0j p k + 1) (lset (Q23 s) 8 false) none
 | word (k : Nat) (s : KSt) (i : LIns) (h : tg T k = some s) (hi : p.code[k]? = some i) (h3 : i.op = 3 ∨ i.op = 4) : AnnH p T (Q0j p k + 2) (lset (Q23 s) 8 false) (some (8, ((Q0b (Q08 p i) : Nat) : Int)))
theorem Q61 {s : KSt} {r : Int} (h : okIn 8 r = true) : lb (Q23 s) r = (kg s r).sec := by
 rw [Q05] at h
 unfold lb Q23 kg
 rw [if_pos (by omega)]
theorem Qg3 {s : KSt} {r : Int} (h : okIn 8 r = true) : lb (lset (Q23 s) 8 false) r = (kg s r).sec := by
 rw [← Q61 h]
 rw [Q05] at h
 unfold lb lset
 rw [if_neg (by omega)]
theorem Qpc {s t : KSt} (h : Sle s t) : Q3o (Q23 s) (Q23 t) := fun j hj e => by
 unfold Q23 at *
 split
 ·rename_i h8
  rw [if_pos h8] at e
  cases hs : (s.getD j default).sec
  ·rfl
  ·rw [(h j).2 hs] at e; cases e
 ·rename_i h8
  rw [if_neg h8] at e; cases e
theorem Q3o.trans {L M N : Lab} (h : Q3o L M) (k : Q3o M N) : Q3o L N := fun j hj e => h j hj (k j hj e)
theorem Q8s {s : KSt} (hl : s.length = 8) (a : Int) (k : LKn) {L : Lab} (hL : Q3o L (Q23 s)) : Q3o (lset L a k.sec) (Q23 (kset s a k)) := fun j hj e => by
 unfold Q23 at e
 split at e
 ·rename_i h8
  rw [Q62, hl] at e
  unfold lset
  split
  ·rename_i h
   rw [if_pos ⟨h, h8⟩] at e
   exact e
  ·rename_i h
   rw [if_neg (by omega)] at e
   refine hL j hj ?_
   unfold Q23
   rw [if_pos h8]; exact e
 ·cases e
theorem Qbz {s : KSt} (hl : s.length = 8) (a : Int) (k : LKn) (hk : k.sec = (kg s a).sec) : Q3o (Q23 s) (Q23 (kset s a k)) := fun j hj e => by
 unfold Q23 at *
 split at e
 ·rename_i h8
  rw [if_pos h8]
  rw [Q62, hl] at e
  by_cases h : j = a.toNat
  ·rw [if_pos ⟨h, h8⟩, hk] at e
   unfold kg at e
   rw [h]; exact e
  ·rw [if_neg (by omega)] at e; exact e
 ·cases e
theorem Qg5 {s : KSt} (hl : s.length = 8) (i : LIns) (c : Bool) : Q3o (Q23 s) (Q23 (Q19 s i c)) := by
 simp only [Q19]
 have h1 : Q3o (Q23 s) (Q23 (if Q40 i.c c then kset s i.a (Q0n (kg s i.a) (kg s i.b)) else s)) := by
  split
  ·exact Qbz hl _ _ rfl
  ·exact fun _ _ e => e
 split
 ·refine h1.trans (Qbz (by split <;> simp [kset, hl]) _ _ ?_)
  show (kg s i.b).sec = _
  split
  ·unfold kg
   rw [Q62]
   split
   ·rename_i e2
    show _ = (kg s i.a).sec
    unfold kg
    rw [e2.1]
   ·rfl
  ·rfl
 ·exact h1
theorem Qg4 {p h : Q01} (hr : h.regs = p.regs) {s : KSt} {i j : LIns} (hok : Q00 p 8 i = true) (hs : Sok s) (h7 : i.op ≠ 7) (h8 : i.op ≠ 8) (h9 : i.op ≠ 9) (ho : j.op = i.op) (ha : j.a = i.a) (hc : j.c = i.c) (hb : j.b = i.b ∨ i.op = 3 ∨ i.op = 4) {L : Lab} (hL : Q3o L (Q23 s)) (hL2 : ∀ r, okIn 8 r = true → lb L r = (kg s r).sec) :
  Q3o (labT h L j) (Q23 (oneK p s i)) := by
 obtain ⟨g1, g2, g10, g3, g5, g8, g9, g11, go, g7, gop⟩ := Q2t hok
 have hreg : Q08 h j = Q08 p i := by unfold Q08; rw [hr, hc]
 unfold labT oneK
 rw [ho, ha]
 by_cases e1 : i.op = 1
 ·rw [if_pos e1, if_pos e1]; exact Q8s hs.len _ _ hL
 rw [if_neg e1, if_neg e1]
 by_cases e2 : i.op = 2
 ·have hb' : j.b = i.b := by omega
  rw [if_pos (.inl e2), if_pos e2, hb', hL2 _ (g2 e2).2]; exact Q8s hs.len _ _ hL
 rw [if_neg e2]
 by_cases e10 : i.op = 10
 ·have hb' : j.b = i.b := by omega
  rw [if_pos (.inr e10), if_pos e10, hb', hL2 _ (g10 e10).2]
  have : (kg s i.b).sec = (ksum (kg s i.b) i.n).sec := by
   unfold ksum
   split
   ·rfl
   ·simp [kopK, kofK]
  rw [this]
  exact Q8s hs.len _ _ hL
 rw [if_neg (by omega), if_neg e10]
 by_cases e3 : i.op = 3 ∨ i.op = 5
 ·rw [if_pos e3, if_pos e3, hreg]
  exact Q8s hs.len _ ⟨17, (Q08 p i).secret⟩ hL
 rw [if_neg e3, if_neg e3]
 by_cases e11 : i.op = 11
 ·rw [if_pos (by omega), if_pos e11]
  exact hL.trans (Qbz hs.len _ _ rfl)
 rw [if_neg e11]
 by_cases e4 : i.op = 4 ∨ i.op = 6 ∨ i.op = 12
 ·rw [if_pos (by omega), if_pos e4]; exact hL
 rw [if_neg (by omega), if_neg e4]
 have := go e1 e2 e10 (by omega) (by omega) (by omega) (by omega) h7 h8 h9 e11 (by omega)
 have hb' : j.b = i.b := by omega
 rw [hb', hc, hL2 _ this.2.1, hL2 _ this.2.2.1]
 exact Q8s hs.len _ (kopK (i.op - 20) (kg s i.b) (kg s i.c)) hL
theorem Q5b {q : Nat} {i : LIns} (h7 : i.op ≠ 7) (h8 : i.op ≠ 8) {q' : Nat} (h : q' ∈ Q33 q i) : q' = q + 1 := by
 unfold Q33 at h
 rw [if_neg h7, if_neg h8] at h
 split at h
 ·simp at h
 ·simpa using h
theorem Q97 {p : Q01} {T : Tab} (S : Q3z p T) {k : Nat} {s : KSt} {i : LIns} (hs : tg T k = some s) (hi : p.code[k]? = some i) {n : Nat} {s' : KSt} (hx : (n, s') ∈ Q0k p k s i) (hq : Q0j p n < (Q06 p).code.length) {L : Lab} (hL : Q3o L (Q23 s')) :
  ∃ L' mk', AnnH p T (Q0j p n) L' mk' ∧ Q3o L L' ∧ mk' = none := by
 have hn : n < p.code.length := by
  rcases Nat.lt_or_ge n p.code.length with h | h
  ·exact h
  ·rw [Qn5 h] at hq; omega
 obtain ⟨t, ht, hl⟩ := S.led hs hi hx hn
 exact ⟨Q23 t, none, .at_ n t ht, hL.trans (Qpc hl), rfl⟩
theorem Qg0 {p : Q01} {k : Nat} {s : KSt} {i : LIns} (h7 : i.op ≠ 7) (h8 : i.op ≠ 8) (h9 : i.op ≠ 9) : (k + 1, oneK p s i) ∈ Q0k p k s i := by
 unfold Q0k; rw [if_neg h7, if_neg h9, if_neg h8]; simp
theorem Q74 {p : Q01} {L : Lab} {i : LIns} (h : i.op = 2 ∨ i.op = 10) : labT p L i = lset L i.a (lb L i.b) := by
 unfold labT; rw [if_neg (by omega), if_pos h]
theorem Qqn {p : Q01} {T : Tab} (S : Q3z p T) : Q6n (Q06 p) (AnnH p T) := by
 refine ⟨Qco S.may, ?_, ?_⟩
 ·intro q L mk j hA hj
  cases hA with
  | at_ k s h =>
   have hk := Qas S.post.tok h
   have hi := List.getElem?_eq_getElem hk
   generalize p.code[k] = i at hi
   obtain ⟨hbd, hq⟩ := S.faults h hi
   obtain ⟨hok, hn⟩ := S.ins hi
   obtain ⟨g1, g2, g10, g3, g5, g8, g9, g11, go, g7, gop⟩ := Q2t hok
   by_cases e3 : i.op = 3 ∨ i.op = 4
   ·obtain ⟨a1, a2, a3, a4⟩ := Q63 hi e3
    rw [a1] at hj
    obtain rfl := Option.some.inj hj
    simp [okT]
   ·obtain ⟨a1, a2⟩ := Q8y hi e3
    rw [a1] at hj
    obtain rfl := Option.some.inj hj
    have eop : (Q0x (Q0j p) i).op = i.op ∧ (Q0x (Q0j p) i).a = i.a ∧ (Q0x (Q0j p) i).b = i.b ∧ (Q0x (Q0j p) i).c = i.c := by unfold Q0x; split <;> simp
    obtain ⟨r1, r2, r3, r4⟩ := eop
    unfold okT
    rw [r1, r2, r3, r4]
    have hreg : Q08 (Q06 p) (Q0x (Q0j p) i) = Q08 p i := by unfold Q08; rw [r4]; rfl
    refine ⟨fun e => absurd e e3, fun e hl => ?_, fun e => ?_, fun e => ?_, fun e => ?_⟩
    ·have e6 : i.op = 6 := by omega
     rw [Q61 (g5 (.inr e6))] at hl
     rw [hreg]
     simpa [Q0y, e6, hl] using hq
    ·rw [Q61 (g8 e).1, Q61 (g8 e).2.1]
     simpa [Q0y, e] using hq
    ·have := go (by omega) (by omega) (by omega) (by omega) (by omega) (by omega) (by omega) (by omega) (by omega) (by omega) (by omega) (by omega)
     rw [Q61 this.2.1, Q61 this.2.2.1]
     rcases e with e | e <;> simpa [Q0y, e] using hq
    ·rw [Q61 (g9 e)]
     simpa [Q0y, e] using hq
  | mask k s i h hi h3 =>
   obtain ⟨a1, a2, a3, a4⟩ := Q63 hi h3
   rw [a2] at hj
   obtain rfl := Option.some.inj hj
   simp [okT]
  | word k s i h hi h3 =>
   obtain ⟨a1, a2, a3, a4⟩ := Q63 hi h3
   rw [a3] at hj
   obtain rfl := Option.some.inj hj
   obtain ⟨hbd, hq⟩ := S.faults h hi
   obtain ⟨hok, hn⟩ := S.ins hi
   obtain ⟨g1, g2, g10, g3, g5, g8, g9, g11, go, g7, gop⟩ := Q2t hok
   refine ⟨fun _ => ⟨rfl, rfl, rfl⟩, fun e hl => ?_, fun e => ?_, fun e => ?_, fun e => ?_⟩
   ·simp only at e hl ⊢
    have e4 : i.op = 4 := by omega
    rw [Qg3 (g3 h3).1] at hl
    show (Q08 p i).secret = true
    have := hq
    simp [Q0y, e4, hl] at this
    exact this.2
   ·simp only at e; omega
   ·simp only at e; omega
   ·simp only at e; omega
 ·intro q L mk j hA hj q' hq' hlt
  cases hA with
  | at_ k s h =>
   have hk := Qas S.post.tok h
   have hi := List.getElem?_eq_getElem hk
   generalize p.code[k] = i at hi
   obtain ⟨hok, hn⟩ := S.ins hi
   obtain ⟨g1, g2, g10, g3, g5, g8, g9, g11, go, g7, gop⟩ := Q2t hok
   have hS := S.post.tok.ok _ _ h
   by_cases e3 : i.op = 3 ∨ i.op = 4
   ·obtain ⟨a1, a2, a3, a4⟩ := Q63 hi e3
    rw [a1] at hj
    obtain rfl := Option.some.inj hj
    obtain rfl := Q5b (by simp) (by simp) hq'
    refine ⟨_, none, .mask k s i h hi e3, ?_, .inl rfl⟩
    rw [Q74 (by simp)]
    simp only
    obtain ⟨hbd, hq⟩ := S.faults h hi
    have hb : (kg s i.b).sec = false := by
     rcases e3 with e | e
     ·simpa [Q0y, e] using hq
     ·simp [Q0y, e] at hq; exact hq.1
    rw [Q61 (g3 e3).2, hb]
    exact fun _ _ e => e
   ·obtain ⟨a1, a2⟩ := Q8y hi e3
    rw [a1] at hj
    obtain rfl := Option.some.inj hj
    by_cases e7 : i.op = 7
    ·have er : Q0x (Q0j p) i = { i with n := (Q0j p i.n.toNat : Nat) } := by unfold Q0x; rw [if_pos (.inl e7)]
     rw [er] at hq' ⊢
     unfold Q33 at hq'
     rw [if_pos e7] at hq'
     simp at hq'
     subst hq'
     obtain ⟨L', mk', b1, b2, b3⟩ := Q97 S h hi (n := i.n.toNat) (s' := s) (by unfold Q0k; rw [if_pos e7]; simp) hlt (fun _ _ e => e)
     exact ⟨L', mk', b1, by rw [Q6h (by simp only; omega)]; exact b2, .inl b3⟩
    by_cases e8 : i.op = 8
    ·have er : Q0x (Q0j p) i = { i with n := (Q0j p i.n.toNat : Nat) } := by unfold Q0x; rw [if_pos (.inr e8)]
     rw [er] at hq' ⊢
     unfold Q33 at hq'
     rw [if_neg e7, if_pos e8] at hq'
     simp at hq'
     have hl8 : (k + 1, Q19 s i false) ∈ Q0k p k s i ∧ (i.n.toNat, Q19 s i true) ∈ Q0k p k s i := by
      unfold Q0k; rw [if_neg e7, if_neg (by omega), if_pos e8]; simp
     rcases hq' with rfl | rfl
     ·rw [← a2] at hlt ⊢
      obtain ⟨L', mk', b1, b2, b3⟩ := Q97 S h hi hl8.1 hlt (Qg5 hS.len i false)
      exact ⟨L', mk', b1, by rw [Q6h (by simp only; omega)]; exact b2, .inl b3⟩
     ·obtain ⟨L', mk', b1, b2, b3⟩ := Q97 S h hi hl8.2 hlt (Qg5 hS.len i true)
      exact ⟨L', mk', b1, by rw [Q6h (by simp only; omega)]; exact b2, .inl b3⟩
    have er : Q0x (Q0j p) i = i := Q5p (by omega)
    rw [er] at hq' ⊢
    by_cases e9 : i.op = 9
    ·unfold Q33 at hq'
     rw [if_neg e7, if_neg e8, if_pos e9] at hq'
     simp at hq'
    obtain rfl := Q5b e7 e8 hq'
    rw [← a2] at hlt ⊢
    obtain ⟨L', mk', b1, b2, b3⟩ := Q97 S h hi (Qg0 e7 e8 e9) hlt (Qg4 (h := Q06 p) (p := p) (j := i) rfl hok hS e7 e8 e9 rfl rfl rfl (.inl rfl) (L := Q23 s) (fun _ _ e => e) (fun r hr => Q61 hr))
    exact ⟨L', mk', b1, b2, .inl b3⟩
  | mask k s i h hi h3 =>
   obtain ⟨a1, a2, a3, a4⟩ := Q63 hi h3
   rw [a2] at hj
   obtain rfl := Option.some.inj hj
   obtain rfl := Q5b (by simp) (by simp) hq'
   refine ⟨_, _, .word k s i h hi h3, ?_, .inr rfl⟩
   rw [Q6h (by simp)]
   exact fun _ _ e => e
  | word k s i h hi h3 =>
   obtain ⟨a1, a2, a3, a4⟩ := Q63 hi h3
   rw [a3] at hj
   obtain rfl := Option.some.inj hj
   obtain ⟨hok, hn⟩ := S.ins hi
   have hS := S.post.tok.ok _ _ h
   obtain rfl := Q5b (by simp only; omega) (by simp only; omega) hq'
   rw [show Q0j p k + 2 + 1 = Q0j p (k + 1) by omega] at hlt ⊢
   have h8le : Q3o (lset (Q23 s) 8 false) (Q23 s) := fun j hj e => by
    unfold lset
    split
    ·rfl
    ·exact e
   obtain ⟨L', mk', b1, b2, b3⟩ := Q97 S h hi (Qg0 (by omega) (by omega) (by omega)) hlt (Qg4 (h := Q06 p) (p := p) (j := ⟨i.op, i.a, 8, i.c, 0⟩) rfl hok hS (by omega) (by omega) (by omega) rfl rfl rfl (.inr h3) h8le (fun r hr => Qg3 hr))
   exact ⟨L', mk', b1, b2, .inl b3⟩
def Q58 (to_ c : Int) : List LIns := [⟨1, 9, 0, 0, 13⟩, ⟨27, to_, to_, 9, 0⟩, ⟨1, 9, 0, 0, c⟩, ⟨25, to_, to_, 9, 0⟩]
def Q2d (n : Int) (k : Nat) : Int := n / 2 ^ (13 * k) % 8192
def numC (to_ n : Int) : List LIns :=
 if Q1h n then [⟨1, to_, 0, 0, n⟩]
 else ⟨1, to_, 0, 0, n / 2 ^ 52⟩ :: (Q58 to_ (Q2d n 3) ++ Q58 to_ (Q2d n 2) ++ Q58 to_ (Q2d n 1) ++ Q58 to_ (Q2d n 0))
def insC (i : LIns) : List LIns :=
 if i.op = 1 then numC i.a i.n
 else if i.op = 10 ∧ Q1h i.n = false then numC 8 i.n ++ [⟨21, i.a, i.b, 8, 0⟩]
 else [i]
def Q0t (p : Q01) (q : Nat) : Nat := plc insC (Q06 p).code q
def Q0f (p : Q01) : Q01 := ⟨p.regs, ((Q06 p).code.flatMap insC).map (Q0x (Q0t p))⟩
theorem Q73 (to_ n : Int) : (numC to_ n).length = if Q1h n then 1 else 17 := by unfold numC; split <;> rfl
theorem Q75 (i : LIns) : (insC i).length = if i.op = 1 then (if Q1h i.n then 1 else 17) else if i.op = 10 ∧ Q1h i.n = false then 18 else 1 := by
 unfold insC
 split
 ·exact Q73 _ _
 ·split
  ·rename_i h
   rw [List.length_append, Q73, if_neg (by simp [h.2])]; rfl
  ·rfl
theorem Qqa (i : LIns) : insC i ≠ [] := by
 intro h
 have := Q75 i
 rw [h] at this
 simp only [List.length_nil] at this
 split at this
 ·split at this <;> omega
 ·split at this <;> omega
theorem Q5e (i : LIns) : (insC i).length ≤ 18 := by
 rw [Q75]
 split
 ·split <;> omega
 ·split <;> omega
theorem Q8h (f : Nat → Nat) (i : LIns) : (Q0x f i).op = i.op ∧ (Q0x f i).a = i.a ∧ (Q0x f i).b = i.b ∧ (Q0x f i).c = i.c := by unfold Q0x; split <;> simp
theorem Qgn (f : Nat → Nat) (i : LIns) : (insC (Q0x f i)).length = (insC i).length := by
 by_cases h : i.op = 7 ∨ i.op = 8
 ·rw [Q75, Q75, (Q8h f i).1, if_neg (by omega), if_neg (by omega), if_neg (by omega), if_neg (by omega)]
 ·rw [Q5p h]
theorem Qro (p : Q01) (f : Nat → Nat) (i : LIns) : (((Q15 p i).map (Q0x f)).flatMap insC).length ≤ 20 := by
 unfold Q15
 split
 ·rename_i h
  simp only [List.map_cons, List.map_nil, List.flatMap_cons, List.flatMap_nil, List.length_append, List.length_nil, Qgn]
  have h1 := Q5e ⟨10, 8, i.b, 0, i.n⟩
  have h2 : (insC ⟨11, 8, 0, 0, ((Q0b (Q08 p i) : Nat) : Int)⟩).length = 1 := by simp [Q75]
  have h3 : (insC ⟨i.op, i.a, 8, i.c, 0⟩).length = 1 := by
   rw [Q75]; simp only; rw [if_neg (by omega), if_neg (by omega)]
  omega
 ·simp only [List.map_cons, List.map_nil, List.flatMap_cons, List.flatMap_nil, List.append_nil, Qgn]
  have := Q5e i
  omega
theorem Qft (p : Q01) (f : Nat → Nat) : ∀ l : List LIns, (((l.flatMap (Q15 p)).map (Q0x f)).flatMap insC).length ≤ 20 * l.length
 | [] => by simp
 | i :: l => by
  have h1 := Qro p f i
  have h2 := Qft p f l
  rw [List.flatMap_cons, List.map_append, List.flatMap_append, List.length_append, List.length_cons, Nat.mul_succ]
  omega
theorem Q7q (p : Q01) : (Q0f p).code.length ≤ 20 * p.code.length := by
 simp only [Q0f, List.length_map]
 exact Qft p (Q0j p) p.code
theorem Qbn {p : Q01} {q : Nat} (h : q < (Q06 p).code.length) : Q0t p q < (Q0f p).code.length := by
 simp only [Q0f, List.length_map]
 exact Qex _ Qqa _ h
theorem Q9q {p : Q01} {q : Nat} (h : (Q06 p).code.length ≤ q) : Q0t p q = (Q0f p).code.length := by
 simp only [Q0f, List.length_map]
 exact Qbl _ _ h
theorem Qfu {p : Q01} {q : Nat} {x : LIns} (h : (Q06 p).code[q]? = some x) (t : Nat) (ht : t < (insC x).length) : (Q0f p).code[Q0t p q + t]? = ((insC x)[t]?).map (Q0x (Q0t p)) := by
 simp only [Q0f, List.getElem?_map]
 rw [show ((Q06 p).code.flatMap insC)[Q0t p q + t]? = (insC x)[t]? from Qct insC (Q06 p).code h t ht]
theorem Qf0 {p : Q01} {q : Nat} {x : LIns} (h : (Q06 p).code[q]? = some x) : Q0t p (q + 1) = Q0t p q + (insC x).length := Q9o insC _ h
theorem Qag (n : Int) (k : Nat) : 0 ≤ Q2d n k ∧ Q2d n k < 8192 := by unfold Q2d; omega
theorem Qnu {to_ n : Int} (h : Q1h n = false) (t : Nat) (h1 : 1 ≤ t) (h2 : t < 17) :
  (∃ c, 0 ≤ c ∧ c < 8192 ∧ (numC to_ n)[t]? = some ⟨1, 9, 0, 0, c⟩ ∧ t ≠ 16) ∨ (2 ≤ t ∧ t ≠ 16 ∧ (numC to_ n)[t]? = some ⟨27, to_, to_, 9, 0⟩) ∨ (2 ≤ t ∧ (numC to_ n)[t]? = some ⟨25, to_, to_, 9, 0⟩) := by
 have b3 := Qag n 3
 have b2 := Qag n 2
 have b1 := Qag n 1
 have b0 := Qag n 0
 unfold numC
 rw [if_neg (by simp [h])]
 have ht : t = 1 ∨ t = 2 ∨ t = 3 ∨ t = 4 ∨ t = 5 ∨ t = 6 ∨ t = 7 ∨ t = 8 ∨ t = 9 ∨ t = 10 ∨ t = 11 ∨ t = 12 ∨ t = 13 ∨ t = 14 ∨ t = 15 ∨ t = 16 := by omega
 rcases ht with rfl | rfl | rfl | rfl | rfl | rfl | rfl | rfl | rfl | rfl | rfl | rfl | rfl | rfl | rfl | rfl
 ·exact .inl ⟨13, by omega, by omega, rfl, by omega⟩
 ·exact .inr (.inl ⟨by omega, by omega, rfl⟩)
 ·exact .inl ⟨_, b3.1, b3.2, rfl, by omega⟩
 ·exact .inr (.inr ⟨by omega, rfl⟩)
 ·exact .inl ⟨13, by omega, by omega, rfl, by omega⟩
 ·exact .inr (.inl ⟨by omega, by omega, rfl⟩)
 ·exact .inl ⟨_, b2.1, b2.2, rfl, by omega⟩
 ·exact .inr (.inr ⟨by omega, rfl⟩)
 ·exact .inl ⟨13, by omega, by omega, rfl, by omega⟩
 ·exact .inr (.inl ⟨by omega, by omega, rfl⟩)
 ·exact .inl ⟨_, b1.1, b1.2, rfl, by omega⟩
 ·exact .inr (.inr ⟨by omega, rfl⟩)
 ·exact .inl ⟨13, by omega, by omega, rfl, by omega⟩
 ·exact .inr (.inl ⟨by omega, by omega, rfl⟩)
 ·exact .inl ⟨_, b0.1, b0.2, rfl, by omega⟩
 ·exact .inr (.inr ⟨by omega, rfl⟩)
theorem Qnv {to_ n : Int} (h : Q1h n = false) : (numC to_ n)[0]? = some ⟨1, to_, 0, 0, n / 2 ^ 52⟩ := by
 unfold numC
 rw [if_neg (by simp [h])]; rfl
def bigI (i : LIns) : Prop := (i.op = 1 ∨ i.op = 10) ∧ Q1h i.n = false
def toI (i : LIns) : Int := if i.op = 1 then i.a else 8
theorem Qk0 {p : Q01} {R : Int} {i : LIns} (h : Q00 p R i = true) (h1 : i.op = 1) : i.b = 0 ∧ i.c = 0 := by
 simp only [Q00] at h
 simp [h1, okIn] at h
 omega
theorem Qgm {p : Q01} {R : Int} {i : LIns} (hi : Q00 p R i = true) (h : ¬ bigI i) : insC i = [i] := by
 unfold bigI at h
 unfold insC
 split
 ·rename_i h1
  have hf : Q1h i.n = true := by
   cases hf : Q1h i.n
   ·exact absurd ⟨.inl h1, hf⟩ h
   ·rfl
  obtain ⟨hb, hc⟩ := Qk0 hi h1
  unfold numC
  rw [if_pos hf]
  cases i
  simp only at h1 hb hc
  subst h1 hb hc
  rfl
 ·rw [if_neg (by rintro ⟨a, b⟩; exact h ⟨.inr a, b⟩)]
theorem Q8v {i : LIns} (h : bigI i) : insC i = numC (toI i) i.n ++ (if i.op = 1 then [] else [⟨21, i.a, i.b, 8, 0⟩]) ∧ (insC i).length = if i.op = 1 then 17 else 18 := by
 obtain ⟨h1, h2⟩ := h
 have hl := Q75 i
 unfold insC toI at *
 by_cases e : i.op = 1
 ·rw [if_pos e] at hl
  simp only [if_pos e] at hl ⊢
  rw [if_neg (by simp [h2])] at hl
  exact ⟨by simp, hl⟩
 ·have e10 : i.op = 10 := by omega
  simp only [if_neg e, if_pos (show i.op = 10 ∧ Q1h i.n = false from ⟨e10, h2⟩)] at hl ⊢
  exact ⟨trivial, hl⟩
theorem Q8u {i : LIns} (h : bigI i) (t : Nat) (h1 : 1 ≤ t) (h2 : t < (insC i).length) :
  (∃ c, 0 ≤ c ∧ c < 8192 ∧ (insC i)[t]? = some ⟨1, 9, 0, 0, c⟩ ∧ t + 1 < (insC i).length) ∨ (2 ≤ t ∧ t + 1 < (insC i).length ∧ (insC i)[t]? = some ⟨27, toI i, toI i, 9, 0⟩) ∨ (2 ≤ t ∧ (insC i)[t]? = some ⟨25, toI i, toI i, 9, 0⟩) ∨
   (2 ≤ t ∧ t + 1 = (insC i).length ∧ i.op = 10 ∧ (insC i)[t]? = some ⟨21, i.a, i.b, 8, 0⟩) := by
 obtain ⟨e1, e2⟩ := Q8v h
 rw [e2] at h2 ⊢
 have hnl : (numC (toI i) i.n).length = 17 := by rw [Q73, if_neg (by simp [h.2])]
 rcases Nat.lt_or_ge t 17 with ht | ht
 ·rw [e1, List.getElem?_append_left (by omega)]
  rcases Qnu (to_ := toI i) h.2 t h1 ht with ⟨c, c0, c1, c2, c3⟩ | ⟨c1, c2, c3⟩ | ⟨c1, c2⟩
  ·exact .inl ⟨c, c0, c1, c2, by split <;> omega⟩
  ·exact .inr (.inl ⟨c1, by split <;> omega, c3⟩)
  ·exact .inr (.inr (.inl ⟨c1, c2⟩))
 ·have e10 : i.op ≠ 1 := by
   intro e
   rw [if_pos e] at h2; omega
  rw [if_neg e10] at h2 ⊢
  obtain rfl : t = 17 := by omega
  refine .inr (.inr (.inr ⟨by omega, by omega, by have := h.1; omega, ?_⟩))
  rw [e1, if_neg e10, List.getElem?_append_right (by omega), hnl]
  rfl
theorem Qce {i : LIns} (h : bigI i) : (insC i)[0]? = some ⟨1, toI i, 0, 0, i.n / 2 ^ 52⟩ := by
 obtain ⟨e1, e2⟩ := Q8v h
 rw [e1, List.getElem?_append_left (by rw [Q73, if_neg (by simp [h.2])]; omega)]
 exact Qnv h.2
structure InsH (p : Q01) (i : LIns) : Prop where
 ok : Q00 (Q06 p) 10 i = true
 b8 : i.op = 10 → okIn 8 i.b = true
 a9 : i.op = 1 ∨ i.op = 10 → okIn 9 i.a = true
 n64 : R64 i.n
theorem Qgw {p : Q01} (hm : Q1x p = true) (hn : ∀ i ∈ p.code, R64 i.n) : ∀ i ∈ (Q06 p).code, InsH p i := by
 intro x hx
 have h1 := (Q5g (Qco hm)).2.2.2 x hx
 obtain ⟨q, hq, rfl⟩ := List.getElem_of_mem hx
 have hlen : (Q06 p).code.length ≤ 600 := by
  have := Qcp p
  have := (Q3x hm).2.2.1
  omega
 have hq' : q < (p.code.flatMap (Q15 p)).length := by simpa [Q06, rawH] using hq
 obtain ⟨k, i, j, e1, e2, e3⟩ := Q8z (Q15 p) p.code q hq'
 have hmi := List.mem_of_getElem? e1
 have hi := (Q3x hm).2.2.2 i hmi
 obtain ⟨g1, g2, g10, g3, g5, g8, g9, g11, go, g7, gop⟩ := Q2t hi
 have key : ∀ y, (Q06 p).code[q]? = some y → (y.op = 10 → okIn 8 y.b = true) ∧ (y.op = 1 ∨ y.op = 10 → okIn 9 y.a = true) ∧ R64 y.n := by
  intro y hy
  by_cases h3 : i.op = 3 ∨ i.op = 4
  ·obtain ⟨a1, a2, a3, a4⟩ := Q63 e1 h3
   rw [Q6l, if_pos h3] at e2
   have hj : j = 0 ∨ j = 1 ∨ j = 2 := by omega
   unfold Q0j at a1 a2 a3
   rcases hj with rfl | rfl | rfl
   ·rw [e3, Nat.add_zero, a1] at hy
    obtain rfl := Option.some.inj hy
    exact ⟨fun _ => (g3 h3).2, fun _ => by simp [okIn], hn i hmi⟩
   ·rw [e3, a2] at hy
    obtain rfl := Option.some.inj hy
    have hc := (Q2p hi (by simp only [Q10, Q18, Bool.or_eq_true, decide_eq_true_eq]; omega))
    have hw := Q5k (Q08 p i) (Q55 (Q3x hm).1 (Q08 p i) (by unfold Q08; simp [hc.2])).2
    exact ⟨fun e => by simp at e, fun e => by simp at e, by simp only [R64]; omega⟩
   ·rw [e3, a3] at hy
    obtain rfl := Option.some.inj hy
    exact ⟨fun e => by simp only at e; omega, fun e => by simp only at e; omega, by simp only [R64]; omega⟩
  ·obtain ⟨a1, a2⟩ := Q8y e1 h3
   rw [Q6l, if_neg h3] at e2
   obtain rfl : j = 0 := by omega
   unfold Q0j at a1
   rw [e3, Nat.add_zero, a1] at hy
   obtain rfl := Option.some.inj hy
   obtain ⟨r1, r2, r3, r4⟩ := Q8h (plc (Q15 p) p.code) i
   rw [r1, r2, r3]
   refine ⟨fun e => (g10 e).2, fun e => ?_, ?_⟩
   ·rcases e with e | e
    ·exact okIn_mono (by omega) (g1 e)
    ·exact okIn_mono (by omega) (g10 e).1
   ·unfold Q0x
    split
    ·rename_i h78
     have h1 := Q7m (g7 h78).2
     unfold Q0j at h1
     simp only [R64]
     omega
    ·exact hn i hmi
 obtain ⟨k1, k2, k3⟩ := key _ (List.getElem?_eq_getElem hq)
 exact ⟨h1, k1, k2, k3⟩
theorem Qbv {p : Q01} {q : Nat} {x : LIns} (hx : InsH p x) (h : (Q06 p).code[q]? = some x) (hb : ¬ bigI x) : (Q0f p).code[Q0t p q]? = some (Q0x (Q0t p) x) ∧ Q0t p (q + 1) = Q0t p q + 1 := by
 have e := Qgm hx.ok hb
 have h1 := Qfu h 0 (by rw [e]; simp)
 have h2 := Qf0 h
 rw [e] at h1 h2
 exact ⟨by simpa using h1, h2⟩
theorem Q3y {p : Q01} {q : Nat} {x : LIns} (h : (Q06 p).code[q]? = some x) {t : Nat} {y : LIns} (hy : (insC x)[t]? = some y) (h7 : ¬ (y.op = 7 ∨ y.op = 8)) : (Q0f p).code[Q0t p q + t]? = some y := by
 rw [Qfu h t (List.getElem?_eq_some_iff.1 hy).1, hy]
 simp [Q5p h7]
theorem Qbw {p : Q01} (hm : Q1x p = true) (hn : ∀ i ∈ p.code, R64 i.n) : ∀ y ∈ (Q0f p).code, Q00 (Q0f p) 10 y = true ∧ Q1h y.n = true := by
 intro y hy
 have hll := Q7q p
 have hm2 := (Q3x hm).2.2.1
 obtain ⟨q', hq', rfl⟩ := List.getElem_of_mem hy
 have hq2 : q' < ((Q06 p).code.flatMap insC).length := by simpa [Q0f] using hq'
 obtain ⟨q, x, t, e1, e2, e3⟩ := Q8z insC (Q06 p).code q' hq2
 have hx := Qgw hm hn x (List.mem_of_getElem? e1)
 suffices h : ∀ z, (Q0f p).code[q']? = some z → Q00 (Q0f p) 10 z = true ∧ Q1h z.n = true from h _ (List.getElem?_eq_getElem hq')
 intro z hz
 have e3' : q' = Q0t p q + t := e3
 rw [e3'] at hz
 by_cases hb : bigI x
 ·have hto : okIn 9 (toI x) = true := by
   unfold toI
   split
   ·rename_i h; exact hx.a9 (.inl h)
   ·simp [okIn]
  rw [Q05] at hto
  by_cases h0 : t = 0
  ·subst h0
   rw [Q3y e1 (Qce hb) (by simp)] at hz
   obtain rfl := Option.some.inj hz
   have := hx.n64
   unfold R64 at this
   refine ⟨by simp [Q00, okIn]; omega, ?_⟩
   simp [Q1h]
   omega
  ·rcases Q8u hb t (by omega) e2 with ⟨c, c0, c1, c2, c3⟩ | ⟨c1, c2, c3⟩ | ⟨c1, c2⟩ | ⟨c1, c2, c3, c4⟩
   ·rw [Q3y e1 c2 (by simp)] at hz
    obtain rfl := Option.some.inj hz
    refine ⟨by simp [Q00, okIn], ?_⟩
    simp [Q1h]
    omega
   ·rw [Q3y e1 c3 (by simp)] at hz
    obtain rfl := Option.some.inj hz
    refine ⟨by simp [Q00, okIn]; omega, by simp [Q1h]⟩
   ·rw [Q3y e1 c2 (by simp)] at hz
    obtain rfl := Option.some.inj hz
    refine ⟨by simp [Q00, okIn]; omega, by simp [Q1h]⟩
   ·rw [Q3y e1 c4 (by simp)] at hz
    obtain rfl := Option.some.inj hz
    have h1 := hx.b8 c3
    have h2 := hx.a9 (.inr c3)
    rw [Q05] at h1 h2
    refine ⟨by simp [Q00, okIn]; omega, by simp [Q1h]⟩
 ·obtain ⟨a1, a2⟩ := Qbv hx e1 hb
  have e := Qgm hx.ok hb
  rw [e] at e2
  simp at e2
  subst e2
  rw [Nat.add_zero, a1] at hz
  obtain rfl := Option.some.inj hz
  obtain ⟨g1, g2, g10, g3, g5, g8, g9, g11, go, g7, gop⟩ := Q2t hx.ok
  by_cases e78 : x.op = 7 ∨ x.op = 8
  ·have ht := Qbn (g7 e78).2
   have hok := hx.ok
   unfold Q0x
   rw [if_pos e78]
   simp only [Q00] at hok ⊢
   rcases e78 with e | e
   ·simp [e, okIn, Q1h] at hok ⊢; omega
   ·simp [e, okIn, Q1h] at hok ⊢; omega
  ·rw [Q5p e78]
   refine ⟨Qgk (p := Q06 p) (q := Q0f p) rfl hx.ok e78, ?_⟩
   have hok := hx.ok
   simp only [Q1h, Bool.and_eq_true, decide_eq_true_eq]
   by_cases h1 : x.op = 1 ∨ x.op = 10
   ·have : Q1h x.n = true := by
     cases hf : Q1h x.n
     ·exact absurd ⟨h1, hf⟩ hb
     ·rfl
    simpa [Q1h] using this
   by_cases h3 : x.op = 3 ∨ x.op = 4
   ·-- a word's number is 0
    obtain ⟨k, i, j, f1, f2, f3⟩ := Q8z (Q15 p) p.code q (by simpa [Q06, rawH] using (List.getElem?_eq_some_iff.1 e1).1)
    by_cases hi3 : i.op = 3 ∨ i.op = 4
    ·obtain ⟨b1, b2, b3, b4⟩ := Q63 f1 hi3
     rw [Q6l, if_pos hi3] at f2
     have hj : j = 0 ∨ j = 1 ∨ j = 2 := by omega
     unfold Q0j at b1 b2 b3
     rcases hj with rfl | rfl | rfl
     ·rw [f3, Nat.add_zero, b1] at e1
      obtain rfl := Option.some.inj e1
      simp at h3
     ·rw [f3, b2] at e1
      obtain rfl := Option.some.inj e1
      simp at h3
     ·rw [f3, b3] at e1
      obtain rfl := Option.some.inj e1
      simp
    ·obtain ⟨b1, b2⟩ := Q8y f1 hi3
     rw [Q6l, if_neg hi3] at f2
     obtain rfl : j = 0 := by omega
     unfold Q0j at b1
     rw [f3, Nat.add_zero, b1] at e1
     obtain rfl := Option.some.inj e1
     rw [(Q8h _ i).1] at h3
     exact absurd h3 hi3
   by_cases h11 : x.op = 11
   ·have := g11 h11; omega
   simp only [Q00] at hok
   by_cases h5 : x.op = 5 ∨ x.op = 6
   ·rw [if_neg (by omega), if_neg (by omega), if_neg (by omega), if_neg h3, if_pos h5] at hok
    simp only [okIn, Bool.and_eq_true, decide_eq_true_eq] at hok
    have hc := Q2p hx.ok (by simp only [Q10, Q18, Bool.or_eq_true, decide_eq_true_eq]; omega)
    have hw := Q5k ((Q06 p).regs.getD x.c.toNat default) (Q55 (Q3x hm).1 _ (by
     have : x.c.toNat < p.regs.length := hc.2
     show p.regs.getD x.c.toNat default ∈ p.regs
     simp [this])).2
    omega
   ·have h0 : x.n = 0 := by
     by_cases h2 : x.op = 2
     ·simp [h2, okIn] at hok; omega
     by_cases h9 : x.op = 9
     ·simp [h9, okIn] at hok; omega
     by_cases h12 : x.op = 12
     ·simp [h12, okIn] at hok; omega
     rw [if_neg (by omega), if_neg h2, if_neg (by omega), if_neg h3, if_neg h5, if_neg (by omega), if_neg (by omega), if_neg h9, if_neg h11, if_neg h12] at hok
     simp [okIn] at hok; omega
    omega
theorem Q7r {p : Q01} (hm : Q1x p = true) (hn : ∀ i ∈ p.code, R64 i.n) : Q3m (Q0f p) = true := by
 obtain ⟨m1, m2, m3, m4⟩ := Q3x hm
 have hl := Q7q p
 have h0 := Q7m (p := p) (k := 0) (by omega)
 have h1 := Qbn (p := p) (q := 0) (by omega)
 simp only [Q3m, Q3v, Bool.and_eq_true, decide_eq_true_eq, List.all_eq_true]
 exact ⟨⟨⟨m1, by omega⟩, by omega⟩, fun x hx => (Qbw hm hn x hx).1⟩
def Q2m (i : LIns) : Int := (((i.op * 16 + i.a) * 16 + i.b) * 16 + i.c) * 16384 + (if i.n < 0 then i.n + 16384 else i.n)
def insW (w : Int) : LIns := ⟨w / 16384 / 16 / 16 / 16, w / 16384 / 16 / 16 % 16, w / 16384 / 16 % 16, w / 16384 % 16, if 8192 ≤ w % 16384 then w % 16384 - 16384 else w % 16384⟩
def Q51 (i : LIns) : Bool := Q1h i.n
def Q3s : List LIns → Nat → Option Nat
 | [], _ => none
 | i :: l, k => if Q51 i then Q3s l (k + 1) else some k
def putW (p : Q01) : List Int × Int × Nat :=
 if !Q3m p then ([], 2, 0)
 else match Q3s p.code 0 with
  | some k => ([], 3, k)
  | none => (p.code.map Q2m, 0, 0)
def Q6e (r : List LReg) (ws : List Int) : Q01 := ⟨r, ws.map insW⟩
def getW (r : List LReg) (ws : List Int) : Q01 × Int := if Q3m (Q6e r ws) then (Q6e r ws, 0) else (⟨[], []⟩, 2)
structure Q98 (i : LIns) : Prop where
 op : 0 ≤ i.op ∧ i.op < 64
 a : 0 ≤ i.a ∧ i.a < 16
 b : 0 ≤ i.b ∧ i.b < 16
 c : 0 ≤ i.c ∧ i.c < 16
theorem Qa5 {p : Q01} (hr : p.regs.length ≤ 6) {i : LIns} (h : Q00 p 10 i = true) : Q98 i := by
 obtain ⟨g1, g2, g10, g3, g5, g8, g9, g11, go, g7, gop⟩ := Q2t h
 have hop : 0 ≤ i.op ∧ i.op < 64 := by omega
 have hl : (p.regs.length : Int) ≤ 6 := by omega
 have key : (0 ≤ i.a ∧ i.a < 16) ∧ (0 ≤ i.b ∧ i.b < 16) ∧ (0 ≤ i.c ∧ i.c < 16) := by
  simp only [Q00] at h
  generalize (p.regs.length : Int) = l at *
  generalize (p.code.length : Int) = m at *
  generalize ((Q0b (p.regs.getD i.c.toNat default) : Nat) : Int) = w at *
  repeat' split at h
  all_goals (simp only [okIn, Bool.and_eq_true, decide_eq_true_eq] at h; omega)
 exact ⟨hop, key.1, key.2.1, key.2.2⟩
theorem Qi7 {i : LIns} (h : Q98 i) (hf : Q51 i = true) : 0 ≤ Q2m i ∧ Q2m i < 4294967296 := by
 obtain ⟨⟨h1, h2⟩, ⟨h3, h4⟩, ⟨h5, h6⟩, h7, h8⟩ := h
 simp only [Q51, Q1h, Bool.and_eq_true, decide_eq_true_eq] at hf
 unfold Q2m
 split <;> omega
theorem Qpu {i : LIns} (h : Q98 i) (hf : Q51 i = true) : insW (Q2m i) = i := by
 obtain ⟨⟨h1, h2⟩, ⟨h3, h4⟩, ⟨h5, h6⟩, h7, h8⟩ := h
 simp only [Q51, Q1h, Bool.and_eq_true, decide_eq_true_eq] at hf
 obtain ⟨op, a, b, c, n⟩ := i
 simp only at h1 h2 h3 h4 h5 h6 h7 h8 hf
 have key : ∀ m : Int, 0 ≤ m → m < 16384 → ((((op * 16 + a) * 16 + b) * 16 + c) * 16384 + m) / 16384 = ((op * 16 + a) * 16 + b) * 16 + c ∧ ((((op * 16 + a) * 16 + b) * 16 + c) * 16384 + m) % 16384 = m := by
  intro m m0 m1
  omega
 unfold insW Q2m
 simp only
 by_cases hn : n < 0
 ·obtain ⟨k1, k2⟩ := key (n + 16384) (by omega) (by omega)
  rw [if_pos hn, k1, k2, if_pos (by omega)]
  have e1 : (((op * 16 + a) * 16 + b) * 16 + c) / 16 = (op * 16 + a) * 16 + b := by omega
  have e2 : ((op * 16 + a) * 16 + b) / 16 = op * 16 + a := by omega
  rw [e1, e2]
  simp only [LIns.mk.injEq]
  exact ⟨by omega, by omega, by omega, by omega, by omega⟩
 ·obtain ⟨k1, k2⟩ := key n (by omega) (by omega)
  rw [if_neg hn, k1, k2, if_neg (by omega)]
  have e1 : (((op * 16 + a) * 16 + b) * 16 + c) / 16 = (op * 16 + a) * 16 + b := by omega
  have e2 : ((op * 16 + a) * 16 + b) / 16 = op * 16 + a := by omega
  rw [e1, e2]
  simp only [LIns.mk.injEq]
  exact ⟨by omega, by omega, by omega, by omega, trivial⟩
theorem Qfm {l : List LIns} : ∀ k, (∀ i ∈ l, Q51 i = true) → Q3s l k = none := by
 induction l with
 | nil => intro k _; rfl
 | cons i l ih =>
  intro k h
  rw [Q3s, if_pos (h i (by simp))]
  exact ih _ fun j hj => h j (by simp [hj])
theorem Qo3 {l : List LIns} : ∀ k, Q3s l k = none → ∀ i ∈ l, Q51 i = true := by
 induction l with
 | nil => intro k _ i hi; simp at hi
 | cons j l ih =>
  intro k h i hi
  rw [Q3s] at h
  split at h
  ·rename_i hf
   simp only [List.mem_cons] at hi
   rcases hi with rfl | hi
   ·exact hf
   ·exact ih _ h i hi
  ·cases h
theorem Q7x {p : Q01} (h : (putW p).2.1 = 0) : Q3m p = true ∧ (putW p).1 = p.code.map Q2m ∧ Q6e p.regs (p.code.map Q2m) = p ∧ (∀ i ∈ p.code, Q51 i = true ∧ Q98 i) := by
 unfold putW at h ⊢
 cases hh : Q3m p
 ·rw [hh] at h; simp at h
 ·rw [hh] at h
  simp only [Bool.not_true, Bool.false_eq_true, if_false] at h ⊢
  cases hm : Q3s p.code 0 with
  | some k => rw [hm] at h; simp at h
  | none =>
   have hf := Qo3 0 hm
   have hs : ∀ i ∈ p.code, Q51 i = true ∧ Q98 i := by
    intro i hi
    obtain ⟨p1, p2, p3, p4⟩ := Q5g hh
    exact ⟨hf i hi, Qa5 (Q2x p1) (p4 i hi)⟩
   refine ⟨trivial, rfl, ?_, hs⟩
   unfold Q6e
   have : (p.code.map Q2m).map insW = p.code := by
    rw [List.map_map]
    conv => rhs; rw [← List.map_id p.code]
    apply List.map_congr_left
    intro i hi
    exact Qpu (hs i hi).2 (hs i hi).1
   rw [this]
theorem Qqt {p : Q01} (h : (putW p).2.1 = 0) : getW p.regs (putW p).1 = (p, 0) := by
 obtain ⟨h1, h2, h3, h4⟩ := Q7x h
 unfold getW
 rw [h2, h3, if_pos h1]
inductive AnnL (p : Q01) (T : Tab) : Nat → Lab → Option (Int × Int) → Prop
 | at_ (q : Nat) (L : Lab) (mk : Option (Int × Int)) (h : AnnH p T q L mk) : AnnL p T (Q0t p q) L mk
 | in1 (q : Nat) (L : Lab) (mk : Option (Int × Int)) (x : LIns) (h : AnnH p T q L mk) (hx : (Q06 p).code[q]? = some x) (hb : bigI x) : AnnL p T (Q0t p q + 1) (lset L (toI x) false) none
 | in2 (q : Nat) (L : Lab) (mk : Option (Int × Int)) (x : LIns) (t : Nat) (h : AnnH p T q L mk) (hx : (Q06 p).code[q]? = some x) (hb : bigI x) (h2 : 2 ≤ t) (ht : t < (insC x).length) : AnnL p T (Q0t p q + t) (lset (lset L (toI x) false) 9 false) none
theorem Qa2 {p : Q01} {L : Lab} {i : LIns} (h : i.op = 1) : labT p L i = lset L i.a false := by unfold labT; rw [if_pos h]
theorem Qc0 {p : Q01} {L : Lab} {i : LIns} (h : 20 < i.op) : labT p L i = lset L i.a (lb L i.b || lb L i.c) := by
 unfold labT; rw [if_neg (by omega), if_neg (by omega), if_neg (by omega), if_neg (by omega)]
theorem Q7n {p : Q01} {L : Lab} {mk : Option (Int × Int)} {i : LIns} (h : i.op = 1 ∨ i.op = 27 ∨ i.op = 25 ∨ i.op = 21) : okT p L mk i :=
 ⟨fun e => by omega, fun e => by omega, fun e => by omega, fun e => by omega, fun e => by omega⟩
theorem Qfq {L : Lab} {a : Int} (x : Bool) : lb (lset L a x) a = x := by unfold lb lset; rw [if_pos rfl]
theorem Qbu {L : Lab} {a b : Int} (h0 : 0 ≤ a) (h1 : 0 ≤ b) (h : b ≠ a) (x : Bool) : lb (lset L a x) b = lb L b := by unfold lb lset; rw [if_neg (by omega)]
theorem Qo1 {i : LIns} (h : i.op ≠ 11) {mk : Option (Int × Int)} (hm : mk = none ∨ mk = mkT i) : mk = none := by
 rcases hm with rfl | rfl
 ·rfl
 ·unfold mkT; rw [if_neg h]
theorem Qoh {p : Q01} {T : Tab} (S : Q3z p T) : Q6n (Q0f p) (AnnL p T) := by
 have TH := Qqn S
 have hard := Qgw S.may S.n64
 refine ⟨Q7r S.may S.n64, ?_, ?_⟩
 ·intro q' L mk y hA hy
  cases hA with
  | at_ q _ _ h =>
   have hq : q < (Q06 p).code.length := by
    rcases Nat.lt_or_ge q (Q06 p).code.length with h1 | h1
    ·exact h1
    ·rw [Q9q h1] at hy
     have := (List.getElem?_eq_some_iff.1 hy).1
     omega
   have hx := List.getElem?_eq_getElem hq
   generalize (Q06 p).code[q] = x at hx
   have hX := hard x (List.mem_of_getElem? hx)
   by_cases hb : bigI x
   ·have := Q3y hx (Qce hb) (by simp)
    rw [Nat.add_zero, hy] at this
    obtain rfl := Option.some.inj this
    exact Q7n (.inl rfl)
   ·obtain ⟨a1, a2⟩ := Qbv hX hx hb
    rw [a1] at hy
    obtain rfl := Option.some.inj hy
    have := TH.ok q L mk x h hx
    obtain ⟨r1, r2, r3, r4⟩ := Q8h (Q0t p) x
    unfold okT at this ⊢
    rw [r1, r2, r3, r4]
    have hreg : Q08 (Q0f p) (Q0x (Q0t p) x) = Q08 (Q06 p) x := by unfold Q08; rw [r4]; rfl
    rw [hreg]
    refine ⟨fun e => ?_, this.2⟩
    rw [Q5p (by omega)]
    exact this.1 e
  | in1 q _ mk x h hx hb =>
   have hl := (Q8v hb).2
   rcases Q8u hb 1 (by omega) (by rw [hl]; split <;> omega) with ⟨c, c0, c1, c2, c3⟩ | ⟨c1, c2, c3⟩ | ⟨c1, c2⟩ | ⟨c1, c2, c3, c4⟩
   ·rw [Q3y hx c2 (by simp)] at hy
    obtain rfl := Option.some.inj hy
    exact Q7n (.inl rfl)
   all_goals omega
  | in2 q L mk x t h hx hb h2 ht =>
   rcases Q8u hb t (by omega) ht with ⟨c, c0, c1, c2, c3⟩ | ⟨c1, c2, c3⟩ | ⟨c1, c2⟩ | ⟨c1, c2, c3, c4⟩
   ·rw [Q3y hx c2 (by simp)] at hy
    obtain rfl := Option.some.inj hy
    exact Q7n (.inl rfl)
   ·rw [Q3y hx c3 (by simp)] at hy
    obtain rfl := Option.some.inj hy
    exact Q7n (.inr (.inl rfl))
   ·rw [Q3y hx c2 (by simp)] at hy
    obtain rfl := Option.some.inj hy
    exact Q7n (.inr (.inr (.inl rfl)))
   ·rw [Q3y hx c4 (by simp)] at hy
    obtain rfl := Option.some.inj hy
    exact Q7n (.inr (.inr (.inr rfl)))
 ·intro q' L0 mk y hA hy q'' hq'' hlt
  cases hA with
  | at_ q _ _ h =>
   have hq : q < (Q06 p).code.length := by
    rcases Nat.lt_or_ge q (Q06 p).code.length with h1 | h1
    ·exact h1
    ·rw [Q9q h1] at hy
     have := (List.getElem?_eq_some_iff.1 hy).1
     omega
   have hx := List.getElem?_eq_getElem hq
   generalize (Q06 p).code[q] = x at hx
   have hX := hard x (List.mem_of_getElem? hx)
   by_cases hb : bigI x
   ·have := Q3y hx (Qce hb) (by simp)
    rw [Nat.add_zero, hy] at this
    obtain rfl := Option.some.inj this
    obtain rfl := Q5b (by simp) (by simp) hq''
    refine ⟨_, none, .in1 q L0 mk x h hx hb, ?_, .inl rfl⟩
    rw [Qa2 rfl]
    exact fun _ _ e => e
   ·obtain ⟨a1, a2⟩ := Qbv hX hx hb
    rw [a1] at hy
    obtain rfl := Option.some.inj hy
    obtain ⟨r1, r2, r3, r4⟩ := Q8h (Q0t p) x
    have hl : labT (Q0f p) L0 (Q0x (Q0t p) x) = labT (Q06 p) L0 x := by
     unfold labT Q08
     rw [r1, r2, r3, r4]; rfl
    have hm : mkT (Q0x (Q0t p) x) = mkT x := by
     unfold mkT
     rw [r1, r2]
     split
     ·rw [Q5p (by omega)]
     ·rfl
    rw [hl, hm]
    have hs : ∃ n, q'' = Q0t p n ∧ n ∈ Q33 q x := by
     by_cases e7 : x.op = 7
     ·have er : Q0x (Q0t p) x = { x with n := (Q0t p x.n.toNat : Nat) } := by unfold Q0x; rw [if_pos (.inl e7)]
      rw [er] at hq''
      unfold Q33 at hq''
      rw [if_pos e7] at hq''
      simp at hq''
      exact ⟨x.n.toNat, hq'', by unfold Q33; rw [if_pos e7]; simp⟩
     by_cases e8 : x.op = 8
     ·have er : Q0x (Q0t p) x = { x with n := (Q0t p x.n.toNat : Nat) } := by unfold Q0x; rw [if_pos (.inr e8)]
      rw [er] at hq''
      unfold Q33 at hq''
      rw [if_neg e7, if_pos e8] at hq''
      simp at hq''
      rcases hq'' with rfl | rfl
      ·exact ⟨q + 1, a2.symm, by unfold Q33; rw [if_neg e7, if_pos e8]; simp⟩
      ·exact ⟨x.n.toNat, rfl, by unfold Q33; rw [if_neg e7, if_pos e8]; simp⟩
     have er : Q0x (Q0t p) x = x := Q5p (by omega)
     rw [er] at hq''
     have := Q5b e7 e8 hq''
     refine ⟨q + 1, by rw [this, a2], ?_⟩
     unfold Q33 at hq'' ⊢
     rw [if_neg e7, if_neg e8] at hq'' ⊢
     split at hq''
     ·simp at hq''
     ·rename_i h9; rw [if_neg h9]; simp
    obtain ⟨n, rfl, hn⟩ := hs
    have hnl : n < (Q06 p).code.length := by
     rcases Nat.lt_or_ge n (Q06 p).code.length with h1 | h1
     ·exact h1
     ·rw [Q9q h1] at hlt; omega
    obtain ⟨L', mk', k1, k2, k3⟩ := TH.next q L0 mk x h hx n hn hnl
    exact ⟨L', mk', .at_ n L' mk' k1, k2, k3⟩
  | in1 q L mk x h hx hb =>
   have hl := (Q8v hb).2
   rcases Q8u hb 1 (by omega) (by rw [hl]; split <;> omega) with ⟨c, c0, c1, c2, c3⟩ | ⟨c1, c2, c3⟩ | ⟨c1, c2⟩ | ⟨c1, c2, c3, c4⟩
   ·rw [Q3y hx c2 (by simp)] at hy
    obtain rfl := Option.some.inj hy
    obtain rfl := Q5b (by simp) (by simp) hq''
    refine ⟨_, none, .in2 q L mk x 2 h hx hb (by omega) (by rw [hl]; split <;> omega), ?_, .inl rfl⟩
    rw [Qa2 rfl]
    exact fun _ _ e => e
   all_goals omega
  | in2 q L mk x t h hx hb h2 ht =>
   have hX := hard x (List.mem_of_getElem? hx)
   have hto : okIn 9 (toI x) = true := by
    unfold toI
    split
    ·rename_i e; exact hX.a9 (.inl e)
    ·simp [okIn]
   rw [Q05] at hto
   have l9 : lb (lset (lset L (toI x) false) 9 false) 9 = false := Qfq false
   have lto : lb (lset (lset L (toI x) false) 9 false) (toI x) = false := by
    rw [Qbu (by omega) (by omega) (by omega), Qfq]
   have hexit : ∀ (n : Nat), t + 1 = (insC x).length → Q0t p q + t + 1 < (Q0f p).code.length → ∃ L' mk', AnnH p T (q + 1) L' mk' ∧ Q3o (labT (Q06 p) L x) L' ∧ mk' = none ∧ Q0t p (q + 1) = Q0t p q + t + 1 := by
    intro _ e hlt
    have e2 := Qf0 hx
    have hop : x.op = 1 ∨ x.op = 10 := hb.1
    have hnl : q + 1 < (Q06 p).code.length := by
     rcases Nat.lt_or_ge (q + 1) (Q06 p).code.length with h1 | h1
     ·exact h1
     ·have := Q9q (p := p) h1
      omega
    obtain ⟨L', mk', k1, k2, k3⟩ := TH.next q L mk x h hx (q + 1) (by unfold Q33; rw [if_neg (by omega), if_neg (by omega), if_neg (by omega)]; simp) hnl
    exact ⟨L', mk', k1, k2, Qo1 (by omega) k3, by omega⟩
   have hstay : ∀ z : LIns, labT (Q0f p) (lset (lset L (toI x) false) 9 false) z = lset (lset L (toI x) false) 9 false → t + 1 < (insC x).length → ∃ L' mk', AnnL p T (Q0t p q + t + 1) L' mk' ∧ Q3o (labT (Q0f p) (lset (lset L (toI x) false) 9 false) z) L' ∧ (mk' = none ∨ mk' = mkT z) := by
    intro z hz hlt
    refine ⟨_, none, .in2 q L mk x (t + 1) h hx hb (by omega) hlt, ?_, .inl rfl⟩
    rw [hz]
    exact fun _ _ e => e
   have hid : ∀ (a : Int), lb (lset (lset L (toI x) false) 9 false) a = false → lset (lset (lset L (toI x) false) 9 false) a false = lset (lset L (toI x) false) 9 false := by
    intro a ha
    funext j
    unfold lset lb at *
    split
    ·rename_i e; rw [e]; exact ha.symm
    ·rfl
   rcases Q8u hb t (by omega) ht with ⟨c, c0, c1, c2, c3⟩ | ⟨c1, c2, c3⟩ | ⟨c1, c2⟩ | ⟨c1, c2, c3, c4⟩
   ·rw [Q3y hx c2 (by simp)] at hy
    obtain rfl := Option.some.inj hy
    obtain rfl := Q5b (by simp) (by simp) hq''
    exact hstay _ (by rw [Qa2 rfl]; exact hid 9 l9) c3
   ·rw [Q3y hx c3 (by simp)] at hy
    obtain rfl := Option.some.inj hy
    obtain rfl := Q5b (by simp) (by simp) hq''
    exact hstay _ (by rw [Qc0 (by simp)]; simp only; rw [lto, l9]; exact hid _ lto) c2
   ·rw [Q3y hx c2 (by simp)] at hy
    obtain rfl := Option.some.inj hy
    obtain rfl := Q5b (by simp) (by simp) hq''
    have hsame : labT (Q0f p) (lset (lset L (toI x) false) 9 false) ⟨25, toI x, toI x, 9, 0⟩ = lset (lset L (toI x) false) 9 false := by
     rw [Qc0 (by simp)]; simp only; rw [lto, l9]; exact hid _ lto
    rcases Nat.lt_or_ge (t + 1) (insC x).length with hl | hl
    ·exact hstay _ hsame hl
    ·obtain ⟨L', mk', k1, k2, k3, k4⟩ := hexit 0 (by omega) hlt
     have hop1 : x.op = 1 := by
      by_cases e1 : x.op = 1
      ·exact e1
      ·exfalso
       obtain ⟨e2, e3⟩ := Q8v hb
       rw [if_neg e1] at e2 e3
       obtain rfl : t = 17 := by omega
       rw [e2, List.getElem?_append_right (by rw [Q73, if_neg (by simp [hb.2])]; omega), Q73, if_neg (by simp [hb.2])] at c2
       simp at c2
     rw [← k4]
     refine ⟨L', mk', .at_ _ L' mk' k1, ?_, .inl k3⟩
     rw [hsame]
     rw [Qa2 hop1] at k2
     have ht1 : toI x = x.a := by unfold toI; rw [if_pos hop1]
     rw [ht1]
     intro j hj e
     have := k2 j hj e
     show (if j = (9 : Int).toNat then false else lset L x.a false j) = false
     split
     ·rfl
     ·exact this
   ·rw [Q3y hx c4 (by simp)] at hy
    obtain rfl := Option.some.inj hy
    obtain rfl := Q5b (by simp) (by simp) hq''
    obtain ⟨L', mk', k1, k2, k3, k4⟩ := hexit 0 c2 hlt
    rw [← k4]
    refine ⟨L', mk', .at_ _ L' mk' k1, ?_, .inl k3⟩
    have ht8 : toI x = 8 := by unfold toI; rw [if_neg (by omega)]
    have hB := hX.b8 c3
    rw [Q05] at hB
    rw [Q74 (.inr c3)] at k2
    rw [Qc0 (by simp)]
    simp only
    rw [← ht8, lto, Bool.or_false, Qbu (by omega) (by omega) (by omega), Qbu (by omega) (by omega) (by omega)]
    intro j hj e
    have := k2 j hj e
    unfold lset at this ⊢
    split
    ·rename_i ej
     rw [if_pos ej] at this; exact this
    ·rename_i ej
     rw [if_neg ej] at this
     split
     ·rfl
     ·split
      ·rfl
      ·exact this
theorem Qoi {p : Q01} {T : Tab} (S : Q3z p T) {ws wt : List Int} (script : List Int) (hl : ws.length = Q0g p) (hm : wt.length = Q0g p) (hp : Pub p ws wt) (k : Nat) :
  (runS (Q0f p) k (Q16 ws script)).seen = (runS (Q0f p) k (Q16 wt script)).seen ∧ (runS (Q0f p) k (Q16 ws script)).fin = (runS (Q0f p) k (Q16 wt script)).fin ∧ (runS (Q0f p) k (Q16 ws script)).value = (runS (Q0f p) k (Q16 wt script)).value ∧
   (runS (Q0f p) k (Q16 ws script)).steps = (runS (Q0f p) k (Q16 wt script)).steps ∧ Pub p (endS (runS (Q0f p) k (Q16 ws script))).pl.words (endS (runS (Q0f p) k (Q16 wt script))).pl.words := by
 obtain ⟨s0, e0, l0⟩ := S.post.first
 have h := AnnL.at_ (p := p) (T := T) (Q0j p 0) _ _ (AnnH.at_ (p := p) (T := T) 0 s0 e0)
 exact Qil (Qoh S) script hl hm hp ⟨_, by simpa [Q0j, Q0t, Qn1] using h⟩ k
structure Holds (to_ : Int) (r r' : List Int) (v : Int) : Prop where
 len : r'.length = r.length
 val : rg r' to_ = v
 rest : ∀ j : Nat, j ≠ to_.toNat → j ≠ 9 → r'.getD j 0 = r.getD j 0
end Go.Proofs.Yteiknefajlocoaa

namespace Go.Proofs.Yteiknefajlocoaa
open Go
set_option linter.unusedVariables false
set_option linter.unusedSimpArgs false
def Q0m (p : Q01) (at_ : Nat) (s : KSt) (i : LIns) : List (Nat × KSt) :=
 if i.op = 7 then [(i.n.toNat, s)]
 else if i.op = 9 then []
 else if i.op = 8 then [(i.n.toNat, Q19 s i true), (at_ + 1, Q19 s i false)]
 else [(at_ + 1, oneK p s i)]
theorem Qby (p : Q01) (at_ : Nat) (s : KSt) (i : LIns) (x : Nat × KSt) : x ∈ Q0m p at_ s i ↔ x ∈ Q0k p at_ s i := by
 unfold Q0m Q0k
 repeat' split
 all_goals simp
 exact Or.comm
theorem Qg1 (p : Q01) (at_ : Nat) (s : KSt) (i : LIns) : (Q0m p at_ s i).length ≤ 2 := by
 unfold Q0m
 repeat' split
 all_goals simp
theorem Qpp {p : Q01} {T : Tab} (h : Tok p T) {x : Nat × KSt} (hs : Sok x.2) (hx : x.1 < p.code.length) : phi (Q12 T x) ≤ phi T ∧ (Q12 T x ≠ T → phi (Q12 T x) < phi T) := by
 have hxT : x.1 < T.length := by rw [h.len]; exact hx
 unfold Q12
 cases ht : tg T x.1 with
 | none =>
  have := Q8m T x.1 (some x.2) hxT
  rw [ht] at this
  simp only [ph] at this
  simp only
  exact ⟨by omega, fun _ => by omega⟩
 | some t =>
  have hk := h.ok _ _ ht
  have hj := Q6q x.2 t
  have := Q8m T x.1 (some (Q0w x.2 t)) hxT
  rw [ht] at this
  simp only [ph] at this
  have r1 := Qbc t (Q0w x.2 t) (by rw [hk.len, hj.len]) hk.ok hj.ok (Qay hk)
  have r2 := Qbd hk
  have r3 := Qbd hj
  simp only
  refine ⟨by omega, fun hne => ?_⟩
  by_cases e : rank t = rank (Q0w x.2 t)
  ·exfalso
   apply hne
   rw [← r1.2 e]
   exact Qar ht hxT
  ·omega
structure A6 (p : Q01) (T0 T : Tab) (again : Bool) (at_ : Nat) : Prop where
 tok : Tok p T
 under : Q5s p T
 first : ∃ s, tg T 0 = some s ∧ Sle Q2z s
 less : phi T ≤ phi T0
 still : again = false → T = T0 ∧ ∀ j, j < at_ → ∀ s, tg T j = some s → ∀ x ∈ Q0k p j s (Q0d p j), Led p T x
 some_ : again = true → phi T < phi T0
structure K6 (p : Q01) (T0 T : Tab) (again : Bool) (at_ : Nat) (s : KSt) (k : Nat) : Prop where
 a6 : A6 p T0 T again at_
 here : ∃ s', tg T at_ = some s' ∧ Sle s s'
 same : again = false → tg T at_ = some s
 led : again = false → ∀ j, j < k → Led p T ((Q0m p at_ s (Q0d p at_)).getD j default)
theorem A6.begin {p : Q01} {T : Tab} (h1 : Tok p T) (h2 : Q5s p T) (h3 : ∃ s, tg T 0 = some s ∧ Sle Q2z s) : A6 p T T false 0 :=
 ⟨h1, h2, h3, Nat.le_refl _, fun _ => ⟨rfl, fun j hj => by omega⟩, fun h => by cases h⟩
theorem A6.skip {p : Q01} {T0 T : Tab} {again : Bool} {at_ : Nat} (h : A6 p T0 T again at_) (hn : tg T at_ = none) : A6 p T0 T again (at_ + 1) :=
 ⟨h.tok, h.under, h.first, h.less, fun e => ⟨(h.still e).1, fun j hj s hs => by
  by_cases hja : j = at_
  ·subst hja; rw [hn] at hs; cases hs
  ·exact (h.still e).2 j (by omega) s hs⟩, h.some_⟩
theorem K6.begin {p : Q01} {T0 T : Tab} {again : Bool} {at_ : Nat} {s : KSt} (h : A6 p T0 T again at_) (hs : tg T at_ = some s) : K6 p T0 T again at_ s 0 :=
 ⟨h, ⟨s, hs, Sle.refl s⟩, fun _ => hs, fun _ j hj => by omega⟩
theorem K6.beyond {p : Q01} {T0 T : Tab} {again : Bool} {at_ : Nat} {s : KSt} {k : Nat} (h : K6 p T0 T again at_ s k) (hx : p.code.length ≤ ((Q0m p at_ s (Q0d p at_)).getD k default).1) : K6 p T0 T again at_ s (k + 1) :=
 ⟨h.a6, h.here, h.same, fun e j hj => by
  by_cases hjk : j = k
  ·subst hjk; intro hl; omega
  ·exact h.led e j (by omega)⟩
theorem K6.join {p : Q01} {T0 T : Tab} {again : Bool} {at_ : Nat} {s : KSt} {k : Nat} (h : K6 p T0 T again at_ s k) (hs : Sok s) (hk : k < (Q0m p at_ s (Q0d p at_)).length) {x : Nat × KSt} (hxe : (Q0m p at_ s (Q0d p at_)).getD k default = x) (hx : x.1 < p.code.length) :
  K6 p T0 (Q12 T x) (again || decide (Q12 T x ≠ T)) at_ s (k + 1) := by
 have hm : x ∈ Q0k p at_ s (Q0d p at_) := by
  rw [← Qby, ← hxe]
  simp [hk]
 have hsx := Q8r p at_ hs (Q0d p at_) x hm
 have hT := h.a6.tok
 have hup := Qgh hT hsx hx
 have hph := Qpp hT hsx hx
 have hled := Qgg hT hsx (x := x)
 have hTu := Qge hT h.a6.under h.here hs hm hx
 refine ⟨⟨Qgf hT hsx hx, hTu, ?_, ?_, fun e => ?_, fun e => ?_⟩, ?_, fun e => ?_, fun e j hj => ?_⟩
 ·obtain ⟨t, h1, h2⟩ := h.a6.first
  obtain ⟨u, h3, h4⟩ := hup 0 t h1
  exact ⟨u, h3, h2.trans h4⟩
 ·have := h.a6.less
  omega
 ·simp only [Bool.or_eq_false_iff, decide_eq_false_iff_not, Decidable.not_not] at e
  rw [e.2]
  exact h.a6.still e.1
 ·simp only [Bool.or_eq_true, decide_eq_true_eq] at e
  rcases e with e | e
  ·have := h.a6.some_ e
   omega
  ·have := h.a6.less
   have := hph.2 e
   omega
 ·obtain ⟨t, h1, h2⟩ := h.here
  obtain ⟨u, h3, h4⟩ := hup at_ t h1
  exact ⟨u, h3, h2.trans h4⟩
 ·simp only [Bool.or_eq_false_iff, decide_eq_false_iff_not, Decidable.not_not] at e
  rw [e.2]
  exact h.same e.1
 ·simp only [Bool.or_eq_false_iff, decide_eq_false_iff_not, Decidable.not_not] at e
  by_cases hjk : j = k
  ·subst hjk
   rw [hxe]
   exact hled
  ·rw [e.2]
   exact h.led e.1 j (by omega)
theorem K6.end_ {p : Q01} {T0 T : Tab} {again : Bool} {at_ : Nat} {s : KSt} {k : Nat} (h : K6 p T0 T again at_ s k) (hk : (Q0m p at_ s (Q0d p at_)).length ≤ k) : A6 p T0 T again (at_ + 1) :=
 ⟨h.a6.tok, h.a6.under, h.a6.first, h.a6.less, fun e => ⟨(h.a6.still e).1, fun j hj t ht x hx => by
  by_cases hja : j = at_
  ·subst hja
   rw [h.same e] at ht
   obtain rfl := Option.some.inj ht
   rw [← Qby] at hx
   obtain ⟨n, hn, rfl⟩ := List.getElem_of_mem hx
   have := h.led e n (by omega)
   simpa [hn] using this
  ·exact (h.a6.still e).2 j (by omega) t ht x hx⟩, h.a6.some_⟩
theorem A6.least {p : Q01} {T0 T : Tab} {at_ : Nat} (h : A6 p T0 T false at_) (hat : p.code.length ≤ at_) : Q59 p T :=
 ⟨⟨h.tok, h.first, fun j s hs => (h.still rfl).2 j (by
  have := h.tok.len
  rcases Nat.lt_or_ge j at_ with h1 | h1
  ·exact h1
  ·exfalso
   unfold tg at hs
   rw [List.getD_eq_getElem?_getD, List.getElem?_eq_none (by omega)] at hs
   cases hs) s hs⟩, h.under⟩
end Go.Proofs.Yteiknefajlocoaa
