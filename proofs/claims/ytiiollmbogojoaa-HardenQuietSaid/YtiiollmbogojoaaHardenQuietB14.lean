/- Laid together from: HardP, Ref6P, PubL, Sim. -/
import Derived.Test.YtiiollmbogojoaaHardenQuietB13
import Derived.Test.YtiiollmbogojoaaHardenQuietB6
import Derived.Test.YtiiollmbogojoaaHardenQuietB5

namespace Go.Proofs.Ytiiollmbogojoaa
open Go.RowKit
set_option linter.unusedSimpArgs false
set_option linter.unusedVariables false
section
variable {α β : Type}
def plc (f : α → List β) (l : List α) (k : Nat) : Nat := ((l.take k).flatMap f).length
theorem plc_zero (f : α → List β) (l : List α) : plc f l 0 = 0 := by simp [plc]
theorem plc_succ (f : α → List β) (l : List α) {k : Nat} {x : α} (h : l[k]? = some x) : plc f l (k + 1) = plc f l k + (f x).length := by
  obtain ⟨hk, rfl⟩ := List.getElem?_eq_some_iff.1 h
  unfold plc
  rw [List.take_succ_eq_append_getElem hk, List.flatMap_append]
  simp
theorem plc_all (f : α → List β) (l : List α) {k : Nat} (h : l.length ≤ k) : plc f l k = (l.flatMap f).length := by
  unfold plc
  rw [List.take_of_length_le h]
theorem plc_mono (f : α → List β) (l : List α) {j k : Nat} (h : j ≤ k) : plc f l j ≤ plc f l k := by
  obtain ⟨d, rfl⟩ : ∃ d, k = j + d := ⟨k - j, by omega⟩
  unfold plc
  rw [List.take_add, List.flatMap_append, List.length_append]
  omega
theorem flat_get (f : α → List β) (l : List α) {k : Nat} {x : α} (h : l[k]? = some x) (j : Nat) (hj : j < (f x).length) : (l.flatMap f)[plc f l k + j]? = (f x)[j]? := by
  obtain ⟨hk, rfl⟩ := List.getElem?_eq_some_iff.1 h
  have e : l = l.take k ++ l[k] :: l.drop (k + 1) := by
    rw [← List.drop_eq_getElem_cons hk, List.take_append_drop]
  have e2 : l.flatMap f = (l.take k).flatMap f ++ (f l[k] ++ (l.drop (k + 1)).flatMap f) := by
    conv => lhs; rw [e]
    rw [List.flatMap_append, List.flatMap_cons]
  rw [e2]
  unfold plc
  rw [List.getElem?_append_right (by omega), Nat.add_sub_cancel_left, List.getElem?_append_left hj]
theorem plc_lt (f : α → List β) (hf : ∀ x, f x ≠ []) (l : List α) {k : Nat} (h : k < l.length) : plc f l k < (l.flatMap f).length := by
  have h1 := plc_succ f l (List.getElem?_eq_getElem h)
  have h2 := plc_mono f l (show k + 1 ≤ l.length by omega)
  rw [plc_all f l (Nat.le_refl _)] at h2
  have := List.length_pos_iff.2 (hf l[k])
  omega
theorem flat_le (f : α → List β) (c : Nat) : ∀ (l : List α), (∀ x ∈ l, (f x).length ≤ c) → (l.flatMap f).length ≤ c * l.length
  | [], _ => by simp
  | x :: l, h => by
    have h1 := h x (by simp)
    have h2 := flat_le f c l fun y hy => h y (by simp [hy])
    rw [List.flatMap_cons, List.length_append, List.length_cons, Nat.mul_succ]
    omega
theorem flat_at (f : α → List β) : ∀ (l : List α) (q : Nat), q < (l.flatMap f).length → ∃ k x j, l[k]? = some x ∧ j < (f x).length ∧ q = plc f l k + j
  | [], q, h => by simp at h
  | x :: l, q, h => by
    rcases Nat.lt_or_ge q (f x).length with h1 | h1
    · exact ⟨0, x, q, by simp, h1, by simp [plc]⟩
    · rw [List.flatMap_cons, List.length_append] at h
      obtain ⟨k, y, j, e1, e2, e3⟩ := flat_at f l (q - (f x).length) (by omega)
      refine ⟨k + 1, y, j, by simpa using e1, e2, ?_⟩
      unfold plc at e3 ⊢
      rw [List.take_succ_cons, List.flatMap_cons, List.length_append]
      omega
end
def blockH (p : LProg) (i : LIns) : List LIns :=
  if i.op = 3 ∨ i.op = 4 then [⟨10, 8, i.b, 0, i.n⟩, ⟨11, 8, 0, 0, ((wordsOf (regOf p i) : Nat) : Int)⟩, ⟨i.op, i.a, 8, i.c, 0⟩] else [i]
def reloc (f : Nat → Nat) (i : LIns) : LIns := if i.op = 7 ∨ i.op = 8 then { i with n := (f i.n.toNat : Nat) } else i
def rawH (p : LProg) : List LIns := p.code.flatMap (blockH p)
def placeH (p : LProg) (k : Nat) : Nat := plc (blockH p) p.code k
def hardP (p : LProg) : LProg := ⟨p.regs, (rawH p).map (reloc (placeH p))⟩
theorem blockH_ne (p : LProg) (i : LIns) : blockH p i ≠ [] := by unfold blockH; split <;> simp
theorem blockH_len (p : LProg) (i : LIns) : (blockH p i).length = if i.op = 3 ∨ i.op = 4 then 3 else 1 := by unfold blockH; split <;> rfl
theorem hardP_len (p : LProg) : (hardP p).code.length ≤ 3 * p.code.length := by
  simp only [hardP, rawH, List.length_map]
  refine flat_le (blockH p) 3 p.code fun x _ => ?_
  rw [blockH_len]
  split <;> omega
theorem reloc_other {f : Nat → Nat} {i : LIns} (h : ¬ (i.op = 7 ∨ i.op = 8)) : reloc f i = i := by unfold reloc; rw [if_neg h]
theorem placeH_lt {p : LProg} {k : Nat} (h : k < p.code.length) : placeH p k < (hardP p).code.length := by
  simp only [hardP, rawH, List.length_map]
  exact plc_lt _ (blockH_ne p) _ h
theorem placeH_le {p : LProg} {k : Nat} (h : p.code.length ≤ k) : placeH p k = (hardP p).code.length := by
  simp only [hardP, rawH, List.length_map]
  exact plc_all _ _ h
theorem hard_one {p : LProg} {k : Nat} {i : LIns} (h : p.code[k]? = some i) (h3 : ¬ (i.op = 3 ∨ i.op = 4)) : (hardP p).code[placeH p k]? = some (reloc (placeH p) i) ∧ placeH p (k + 1) = placeH p k + 1 := by
  have e : blockH p i = [i] := by unfold blockH; rw [if_neg h3]
  have h1 := flat_get (blockH p) p.code h 0 (by rw [e]; simp)
  have h2 := plc_succ (blockH p) p.code h
  rw [e] at h1 h2
  refine ⟨?_, h2⟩
  simp only [hardP, rawH, List.getElem?_map]
  have h1' : (p.code.flatMap (blockH p))[placeH p k]? = some i := by simpa [placeH] using h1
  rw [h1']; rfl
theorem hard_three {p : LProg} {k : Nat} {i : LIns} (h : p.code[k]? = some i) (h3 : i.op = 3 ∨ i.op = 4) :
    (hardP p).code[placeH p k]? = some ⟨10, 8, i.b, 0, i.n⟩ ∧ (hardP p).code[placeH p k + 1]? = some ⟨11, 8, 0, 0, ((wordsOf (regOf p i) : Nat) : Int)⟩ ∧ (hardP p).code[placeH p k + 2]? = some ⟨i.op, i.a, 8, i.c, 0⟩ ∧ placeH p (k + 1) = placeH p k + 3 := by
  have e : blockH p i = [⟨10, 8, i.b, 0, i.n⟩, ⟨11, 8, 0, 0, ((wordsOf (regOf p i) : Nat) : Int)⟩, ⟨i.op, i.a, 8, i.c, 0⟩] := by unfold blockH; rw [if_pos h3]
  have g := fun j hj => flat_get (blockH p) p.code h j (by rw [e]; exact hj)
  have h2 := plc_succ (blockH p) p.code h
  rw [e] at h2
  simp only [e] at g
  have m : ∀ (q : Nat) (x : LIns), (p.code.flatMap (blockH p))[q]? = some x → ¬ (x.op = 7 ∨ x.op = 8) → (hardP p).code[q]? = some x := by
    intro q x hq hx
    simp only [hardP, rawH, List.getElem?_map, hq, Option.map_some, reloc_other hx]
  refine ⟨m _ _ (by simpa [placeH] using g 0 (by simp)) (by simp), m _ _ (by simpa [placeH] using g 1 (by simp)) (by simp), m _ _ (by simpa [placeH] using g 2 (by simp)) ?_, h2⟩
  show ¬ (i.op = 7 ∨ i.op = 8)
  omega
theorem insOk_regs {p q : LProg} (hr : p.regs = q.regs) {R : Int} {i : LIns} (h : insOk p R i = true) (h7 : ¬ (i.op = 7 ∨ i.op = 8)) : insOk q R i = true := by
  simp only [insOk] at *
  rw [← hr]
  by_cases e7 : i.op = 7
  · omega
  by_cases e8 : i.op = 8
  · omega
  simp only [e7, e8, if_false] at *
  exact h
theorem hard_hard {p : LProg} (hm : mayOk p = true) : hardOk (hardP p) = true := by
  obtain ⟨m1, m2, m3, m4⟩ := may_parts hm
  have hl := hardP_len p
  have hpos := placeH_lt (p := p) (k := 0) (by omega)
  simp only [hardOk, progOk, Bool.and_eq_true, decide_eq_true_eq, List.all_eq_true]
  refine ⟨⟨⟨m1, by omega⟩, by omega⟩, fun x hx => ?_⟩
  obtain ⟨q, hq, rfl⟩ := List.getElem_of_mem hx
  have hq' : q < (p.code.flatMap (blockH p)).length := by simpa [hardP, rawH] using hq
  obtain ⟨k, i, j, h1, h2, h3⟩ := flat_at (blockH p) p.code q hq'
  have hi := m4 i (List.mem_of_getElem? h1)
  have hi10 := insOk_mono (S := 10) (by omega) hi
  obtain ⟨g1, g2, g10, g3, g5, g8, g9, g11, go, g7, gop⟩ := ins_regs hi
  suffices h : ∀ y, (hardP p).code[q]? = some y → insOk (hardP p) 10 y = true from h _ (List.getElem?_eq_getElem hq)
  intro y hy
  by_cases e3 : i.op = 3 ∨ i.op = 4
  · obtain ⟨a1, a2, a3, a4⟩ := hard_three h1 e3
    rw [blockH_len, if_pos e3] at h2
    have hb := g3 e3
    have hc := (region_there hi (by simp only [isPut, isTake, Bool.or_eq_true, decide_eq_true_eq]; omega))
    have hw := words_le (regOf p i) (regsOk_log m1 (regOf p i) (by unfold regOf; simp [hc.2])).2
    have hw0 := words_pos (regOf p i)
    simp only [okIn_iff] at hb
    have hj : j = 0 ∨ j = 1 ∨ j = 2 := by omega
    have hcr : i.c < p.regs.length := by omega
    unfold placeH at a1 a2 a3
    rcases hj with rfl | rfl | rfl
    · rw [h3, Nat.add_zero, a1] at hy
      obtain rfl := Option.some.inj hy
      simp [insOk, okIn]; omega
    · rw [h3, a2] at hy
      obtain rfl := Option.some.inj hy
      simp [insOk, okIn]; omega
    · rw [h3, a3] at hy
      obtain rfl := Option.some.inj hy
      have hrl : (hardP p).regs.length = p.regs.length := rfl
      rcases e3 with e | e <;> simp [insOk, okIn, e] <;> omega
  · obtain ⟨a1, a2⟩ := hard_one h1 e3
    rw [blockH_len, if_neg e3] at h2
    obtain rfl : j = 0 := by omega
    unfold placeH at a1
    rw [h3, Nat.add_zero, a1] at hy
    obtain rfl := Option.some.inj hy
    by_cases e7 : i.op = 7 ∨ i.op = 8
    · have ht := placeH_lt (g7 e7).2
      unfold placeH at ht
      unfold reloc
      rw [if_pos e7]
      simp only [insOk] at hi10 ⊢
      rcases e7 with e | e
      · simp [e, okIn] at hi10 ⊢; refine ⟨?_, ?_⟩ <;> omega
      · simp [e, okIn] at hi10 ⊢; omega
    · rw [reloc_other e7]
      exact insOk_regs (p := p) (q := hardP p) rfl hi10 e7
def labOf (s : KSt) : Lab := fun r => if r < 8 then (s.getD r default).sec else true
inductive AnnH (p : LProg) (T : Tab) : Nat → Lab → Option (Int × Int) → Prop
  | at_ (k : Nat) (s : KSt) (h : tg T k = some s) : AnnH p T (placeH p k) (labOf s) none
  | mask (k : Nat) (s : KSt) (i : LIns) (h : tg T k = some s) (hi : p.code[k]? = some i) (h3 : i.op = 3 ∨ i.op = 4) : AnnH p T (placeH p k + 1) (lset (labOf s) 8 false) none
  | word (k : Nat) (s : KSt) (i : LIns) (h : tg T k = some s) (hi : p.code[k]? = some i) (h3 : i.op = 3 ∨ i.op = 4) : AnnH p T (placeH p k + 2) (lset (labOf s) 8 false) (some (8, ((wordsOf (regOf p i) : Nat) : Int)))
theorem lb_of {s : KSt} {r : Int} (h : okIn 8 r = true) : lb (labOf s) r = (kg s r).sec := by
  rw [okIn_iff] at h
  unfold lb labOf kg
  rw [if_pos (by omega)]
theorem lb_set8 {s : KSt} {r : Int} (h : okIn 8 r = true) : lb (lset (labOf s) 8 false) r = (kg s r).sec := by
  rw [← lb_of h]
  rw [okIn_iff] at h
  unfold lb lset
  rw [if_neg (by omega)]
theorem labOf_le {s t : KSt} (h : Sle s t) : LabLe (labOf s) (labOf t) := fun j hj e => by
  unfold labOf at *
  split
  · rename_i h8
    rw [if_pos h8] at e
    cases hs : (s.getD j default).sec
    · rfl
    · rw [(h j).2 hs] at e; cases e
  · rename_i h8
    rw [if_neg h8] at e; cases e
theorem LabLe.trans {L M N : Lab} (h : LabLe L M) (k : LabLe M N) : LabLe L N := fun j hj e => h j hj (k j hj e)
theorem lab_kset {s : KSt} (hl : s.length = 8) (a : Int) (k : LKn) {L : Lab} (hL : LabLe L (labOf s)) : LabLe (lset L a k.sec) (labOf (kset s a k)) := fun j hj e => by
  unfold labOf at e
  split at e
  · rename_i h8
    rw [kset_get, hl] at e
    unfold lset
    split
    · rename_i h
      rw [if_pos ⟨h, h8⟩] at e
      exact e
    · rename_i h
      rw [if_neg (by omega)] at e
      refine hL j hj ?_
      unfold labOf
      rw [if_pos h8]; exact e
  · cases e
theorem lab_know {s : KSt} (hl : s.length = 8) (a : Int) (k : LKn) (hk : k.sec = (kg s a).sec) : LabLe (labOf s) (labOf (kset s a k)) := fun j hj e => by
  unfold labOf at *
  split at e
  · rename_i h8
    rw [if_pos h8]
    rw [kset_get, hl] at e
    by_cases h : j = a.toNat
    · rw [if_pos ⟨h, h8⟩, hk] at e
      unfold kg at e
      rw [h]; exact e
    · rw [if_neg (by omega)] at e; exact e
  · cases e
theorem lab_branch {s : KSt} (hl : s.length = 8) (i : LIns) (c : Bool) : LabLe (labOf s) (labOf (branchK s i c)) := by
  simp only [branchK]
  have h1 : LabLe (labOf s) (labOf (if tells1 i.c c then kset s i.a (kless (kg s i.a) (kg s i.b)) else s)) := by
    split
    · exact lab_know hl _ _ rfl
    · exact fun _ _ e => e
  split
  · refine h1.trans (lab_know (by split <;> simp [kset, hl]) _ _ ?_)
    show (kg s i.b).sec = _
    split
    · unfold kg
      rw [kset_get]
      split
      · rename_i e2
        show _ = (kg s i.a).sec
        unfold kg
        rw [e2.1]
      · rfl
    · rfl
  · exact h1
theorem lab_one {p h : LProg} (hr : h.regs = p.regs) {s : KSt} {i j : LIns} (hok : insOk p 8 i = true) (hs : Sok s) (h7 : i.op ≠ 7) (h8 : i.op ≠ 8) (h9 : i.op ≠ 9) (ho : j.op = i.op) (ha : j.a = i.a) (hc : j.c = i.c) (hb : j.b = i.b ∨ i.op = 3 ∨ i.op = 4) {L : Lab} (hL : LabLe L (labOf s)) (hL2 : ∀ r, okIn 8 r = true → lb L r = (kg s r).sec) :
    LabLe (labT h L j) (labOf (oneK p s i)) := by
  obtain ⟨g1, g2, g10, g3, g5, g8, g9, g11, go, g7, gop⟩ := ins_regs hok
  have hreg : regOf h j = regOf p i := by unfold regOf; rw [hr, hc]
  unfold labT oneK
  rw [ho, ha]
  by_cases e1 : i.op = 1
  · rw [if_pos e1, if_pos e1]; exact lab_kset hs.len _ _ hL
  rw [if_neg e1, if_neg e1]
  by_cases e2 : i.op = 2
  · have hb' : j.b = i.b := by omega
    rw [if_pos (.inl e2), if_pos e2, hb', hL2 _ (g2 e2).2]; exact lab_kset hs.len _ _ hL
  rw [if_neg e2]
  by_cases e10 : i.op = 10
  · have hb' : j.b = i.b := by omega
    rw [if_pos (.inr e10), if_pos e10, hb', hL2 _ (g10 e10).2]
    have : (kg s i.b).sec = (ksum (kg s i.b) i.n).sec := by
      unfold ksum
      split
      · rfl
      · simp [kopK, kofK]
    rw [this]
    exact lab_kset hs.len _ _ hL
  rw [if_neg (by omega), if_neg e10]
  by_cases e3 : i.op = 3 ∨ i.op = 5
  · rw [if_pos e3, if_pos e3, hreg]
    exact lab_kset hs.len _ ⟨17, (regOf p i).secret⟩ hL
  rw [if_neg e3, if_neg e3]
  by_cases e11 : i.op = 11
  · rw [if_pos (by omega), if_pos e11]
    exact hL.trans (lab_know hs.len _ _ rfl)
  rw [if_neg e11]
  by_cases e4 : i.op = 4 ∨ i.op = 6 ∨ i.op = 12
  · rw [if_pos (by omega), if_pos e4]; exact hL
  rw [if_neg (by omega), if_neg e4]
  have := go e1 e2 e10 (by omega) (by omega) (by omega) (by omega) h7 h8 h9 e11 (by omega)
  have hb' : j.b = i.b := by omega
  rw [hb', hc, hL2 _ this.2.1, hL2 _ this.2.2.1]
  exact lab_kset hs.len _ (kopK (i.op - 20) (kg s i.b) (kg s i.c)) hL
theorem succ_next {q : Nat} {i : LIns} (h7 : i.op ≠ 7) (h8 : i.op ≠ 8) {q' : Nat} (h : q' ∈ succT q i) : q' = q + 1 := by
  unfold succT at h
  rw [if_neg h7, if_neg h8] at h
  split at h
  · simp at h
  · simpa using h
theorem ann_to {p : LProg} {T : Tab} (S : Sound p T) {k : Nat} {s : KSt} {i : LIns} (hs : tg T k = some s) (hi : p.code[k]? = some i) {n : Nat} {s' : KSt} (hx : (n, s') ∈ leadsK p k s i) (hq : placeH p n < (hardP p).code.length) {L : Lab} (hL : LabLe L (labOf s')) :
    ∃ L' mk', AnnH p T (placeH p n) L' mk' ∧ LabLe L L' ∧ mk' = none := by
  have hn : n < p.code.length := by
    rcases Nat.lt_or_ge n p.code.length with h | h
    · exact h
    · rw [placeH_le h] at hq; omega
  obtain ⟨t, ht, hl⟩ := S.led hs hi hx hn
  exact ⟨labOf t, none, .at_ n t ht, hL.trans (labOf_le hl), rfl⟩
theorem leads_next {p : LProg} {k : Nat} {s : KSt} {i : LIns} (h7 : i.op ≠ 7) (h8 : i.op ≠ 8) (h9 : i.op ≠ 9) : (k + 1, oneK p s i) ∈ leadsK p k s i := by
  unfold leadsK; rw [if_neg h7, if_neg h9, if_neg h8]; simp
theorem labT_set {p : LProg} {L : Lab} {i : LIns} (h : i.op = 2 ∨ i.op = 10) : labT p L i = lset L i.a (lb L i.b) := by
  unfold labT; rw [if_neg (by omega), if_pos h]
theorem hard_typed {p : LProg} {T : Tab} (S : Sound p T) : Typed (hardP p) (AnnH p T) := by
  refine ⟨hard_hard S.may, ?_, ?_⟩
  · intro q L mk j hA hj
    cases hA with
    | at_ k s h =>
      have hk := tg_lt S.post.tok h
      have hi := List.getElem?_eq_getElem hk
      generalize p.code[k] = i at hi
      obtain ⟨hbd, hq⟩ := S.faults h hi
      obtain ⟨hok, hn⟩ := S.ins hi
      obtain ⟨g1, g2, g10, g3, g5, g8, g9, g11, go, g7, gop⟩ := ins_regs hok
      by_cases e3 : i.op = 3 ∨ i.op = 4
      · obtain ⟨a1, a2, a3, a4⟩ := hard_three hi e3
        rw [a1] at hj
        obtain rfl := Option.some.inj hj
        simp [okT]
      · obtain ⟨a1, a2⟩ := hard_one hi e3
        rw [a1] at hj
        obtain rfl := Option.some.inj hj
        have eop : (reloc (placeH p) i).op = i.op ∧ (reloc (placeH p) i).a = i.a ∧ (reloc (placeH p) i).b = i.b ∧ (reloc (placeH p) i).c = i.c := by unfold reloc; split <;> simp
        obtain ⟨r1, r2, r3, r4⟩ := eop
        unfold okT
        rw [r1, r2, r3, r4]
        have hreg : regOf (hardP p) (reloc (placeH p) i) = regOf p i := by unfold regOf; rw [r4]; rfl
        refine ⟨fun e => absurd e e3, fun e hl => ?_, fun e => ?_, fun e => ?_, fun e => ?_⟩
        · have e6 : i.op = 6 := by omega
          rw [lb_of (g5 (.inr e6))] at hl
          rw [hreg]
          simpa [quietK, e6, hl] using hq
        · rw [lb_of (g8 e).1, lb_of (g8 e).2.1]
          simpa [quietK, e] using hq
        · have := go (by omega) (by omega) (by omega) (by omega) (by omega) (by omega) (by omega) (by omega) (by omega) (by omega) (by omega) (by omega)
          rw [lb_of this.2.1, lb_of this.2.2.1]
          rcases e with e | e <;> simpa [quietK, e] using hq
        · rw [lb_of (g9 e)]
          simpa [quietK, e] using hq
    | mask k s i h hi h3 =>
      obtain ⟨a1, a2, a3, a4⟩ := hard_three hi h3
      rw [a2] at hj
      obtain rfl := Option.some.inj hj
      simp [okT]
    | word k s i h hi h3 =>
      obtain ⟨a1, a2, a3, a4⟩ := hard_three hi h3
      rw [a3] at hj
      obtain rfl := Option.some.inj hj
      obtain ⟨hbd, hq⟩ := S.faults h hi
      obtain ⟨hok, hn⟩ := S.ins hi
      obtain ⟨g1, g2, g10, g3, g5, g8, g9, g11, go, g7, gop⟩ := ins_regs hok
      refine ⟨fun _ => ⟨rfl, rfl, rfl⟩, fun e hl => ?_, fun e => ?_, fun e => ?_, fun e => ?_⟩
      · simp only at e hl ⊢
        have e4 : i.op = 4 := by omega
        rw [lb_set8 (g3 h3).1] at hl
        show (regOf p i).secret = true
        have := hq
        simp [quietK, e4, hl] at this
        exact this.2
      · simp only at e; omega
      · simp only at e; omega
      · simp only at e; omega
  · intro q L mk j hA hj q' hq' hlt
    cases hA with
    | at_ k s h =>
      have hk := tg_lt S.post.tok h
      have hi := List.getElem?_eq_getElem hk
      generalize p.code[k] = i at hi
      obtain ⟨hok, hn⟩ := S.ins hi
      obtain ⟨g1, g2, g10, g3, g5, g8, g9, g11, go, g7, gop⟩ := ins_regs hok
      have hS := S.post.tok.ok _ _ h
      by_cases e3 : i.op = 3 ∨ i.op = 4
      · obtain ⟨a1, a2, a3, a4⟩ := hard_three hi e3
        rw [a1] at hj
        obtain rfl := Option.some.inj hj
        obtain rfl := succ_next (by simp) (by simp) hq'
        refine ⟨_, none, .mask k s i h hi e3, ?_, .inl rfl⟩
        rw [labT_set (by simp)]
        simp only
        obtain ⟨hbd, hq⟩ := S.faults h hi
        have hb : (kg s i.b).sec = false := by
          rcases e3 with e | e
          · simpa [quietK, e] using hq
          · simp [quietK, e] at hq; exact hq.1
        rw [lb_of (g3 e3).2, hb]
        exact fun _ _ e => e
      · obtain ⟨a1, a2⟩ := hard_one hi e3
        rw [a1] at hj
        obtain rfl := Option.some.inj hj
        by_cases e7 : i.op = 7
        · have er : reloc (placeH p) i = { i with n := (placeH p i.n.toNat : Nat) } := by unfold reloc; rw [if_pos (.inl e7)]
          rw [er] at hq' ⊢
          unfold succT at hq'
          rw [if_pos e7] at hq'
          simp at hq'
          subst hq'
          obtain ⟨L', mk', b1, b2, b3⟩ := ann_to S h hi (n := i.n.toNat) (s' := s) (by unfold leadsK; rw [if_pos e7]; simp) hlt (fun _ _ e => e)
          exact ⟨L', mk', b1, by rw [labT_same (by simp only; omega)]; exact b2, .inl b3⟩
        by_cases e8 : i.op = 8
        · have er : reloc (placeH p) i = { i with n := (placeH p i.n.toNat : Nat) } := by unfold reloc; rw [if_pos (.inr e8)]
          rw [er] at hq' ⊢
          unfold succT at hq'
          rw [if_neg e7, if_pos e8] at hq'
          simp at hq'
          have hl8 : (k + 1, branchK s i false) ∈ leadsK p k s i ∧ (i.n.toNat, branchK s i true) ∈ leadsK p k s i := by
            unfold leadsK; rw [if_neg e7, if_neg (by omega), if_pos e8]; simp
          rcases hq' with rfl | rfl
          · rw [← a2] at hlt ⊢
            obtain ⟨L', mk', b1, b2, b3⟩ := ann_to S h hi hl8.1 hlt (lab_branch hS.len i false)
            exact ⟨L', mk', b1, by rw [labT_same (by simp only; omega)]; exact b2, .inl b3⟩
          · obtain ⟨L', mk', b1, b2, b3⟩ := ann_to S h hi hl8.2 hlt (lab_branch hS.len i true)
            exact ⟨L', mk', b1, by rw [labT_same (by simp only; omega)]; exact b2, .inl b3⟩
        have er : reloc (placeH p) i = i := reloc_other (by omega)
        rw [er] at hq' ⊢
        by_cases e9 : i.op = 9
        · unfold succT at hq'
          rw [if_neg e7, if_neg e8, if_pos e9] at hq'
          simp at hq'
        obtain rfl := succ_next e7 e8 hq'
        rw [← a2] at hlt ⊢
        obtain ⟨L', mk', b1, b2, b3⟩ := ann_to S h hi (leads_next e7 e8 e9) hlt (lab_one (h := hardP p) (p := p) (j := i) rfl hok hS e7 e8 e9 rfl rfl rfl (.inl rfl) (L := labOf s) (fun _ _ e => e) (fun r hr => lb_of hr))
        exact ⟨L', mk', b1, b2, .inl b3⟩
    | mask k s i h hi h3 =>
      obtain ⟨a1, a2, a3, a4⟩ := hard_three hi h3
      rw [a2] at hj
      obtain rfl := Option.some.inj hj
      obtain rfl := succ_next (by simp) (by simp) hq'
      refine ⟨_, _, .word k s i h hi h3, ?_, .inr rfl⟩
      rw [labT_same (by simp)]
      exact fun _ _ e => e
    | word k s i h hi h3 =>
      obtain ⟨a1, a2, a3, a4⟩ := hard_three hi h3
      rw [a3] at hj
      obtain rfl := Option.some.inj hj
      obtain ⟨hok, hn⟩ := S.ins hi
      have hS := S.post.tok.ok _ _ h
      obtain rfl := succ_next (by simp only; omega) (by simp only; omega) hq'
      rw [show placeH p k + 2 + 1 = placeH p (k + 1) by omega] at hlt ⊢
      have h8le : LabLe (lset (labOf s) 8 false) (labOf s) := fun j hj e => by
        unfold lset
        split
        · rfl
        · exact e
      obtain ⟨L', mk', b1, b2, b3⟩ := ann_to S h hi (leads_next (by omega) (by omega) (by omega)) hlt (lab_one (h := hardP p) (p := p) (j := ⟨i.op, i.a, 8, i.c, 0⟩) rfl hok hS (by omega) (by omega) (by omega) rfl rfl rfl (.inr h3) h8le (fun r hr => lb_set8 hr))
      exact ⟨L', mk', b1, b2, .inl b3⟩
theorem hard_quiet {p : LProg} {T : Tab} (S : Sound p T) {ws wt : List Int} (script : List Int) (hl : ws.length = total p) (hm : wt.length = total p) (hp : Pub p ws wt) (k : Nat) :
    (runS (hardP p) k (startS ws script)).seen = (runS (hardP p) k (startS wt script)).seen ∧ (runS (hardP p) k (startS ws script)).fin = (runS (hardP p) k (startS wt script)).fin ∧ (runS (hardP p) k (startS ws script)).value = (runS (hardP p) k (startS wt script)).value ∧
      (runS (hardP p) k (startS ws script)).steps = (runS (hardP p) k (startS wt script)).steps ∧ Pub p (endS (runS (hardP p) k (startS ws script))).pl.words (endS (runS (hardP p) k (startS wt script))).pl.words := by
  obtain ⟨s0, e0, l0⟩ := S.post.first
  exact typed_quiet (hard_typed S) script hl hm hp ⟨_, by simpa [placeH, plc_zero] using AnnH.at_ (p := p) (T := T) 0 s0 e0⟩ k
end Go.Proofs.Ytiiollmbogojoaa

namespace Go.Proofs.Ytiiollmbogojoaa
open Go
set_option linter.unusedVariables false
set_option linter.unusedSimpArgs false
def leads6 (p : LProg) (at_ : Nat) (s : KSt) (i : LIns) : List (Nat × KSt) :=
  if i.op = 7 then [(i.n.toNat, s)]
  else if i.op = 9 then []
  else if i.op = 8 then [(i.n.toNat, branchK s i true), (at_ + 1, branchK s i false)]
  else [(at_ + 1, oneK p s i)]
theorem leads6_mem (p : LProg) (at_ : Nat) (s : KSt) (i : LIns) (x : Nat × KSt) : x ∈ leads6 p at_ s i ↔ x ∈ leadsK p at_ s i := by
  unfold leads6 leadsK
  repeat' split
  all_goals simp
  exact Or.comm
theorem leads6_len (p : LProg) (at_ : Nat) (s : KSt) (i : LIns) : (leads6 p at_ s i).length ≤ 2 := by
  unfold leads6
  repeat' split
  all_goals simp
theorem joinT_phi {p : LProg} {T : Tab} (h : Tok p T) {x : Nat × KSt} (hs : Sok x.2) (hx : x.1 < p.code.length) : phi (joinT T x) ≤ phi T ∧ (joinT T x ≠ T → phi (joinT T x) < phi T) := by
  have hxT : x.1 < T.length := by rw [h.len]; exact hx
  unfold joinT
  cases ht : tg T x.1 with
  | none =>
    have := phi_set T x.1 (some x.2) hxT
    rw [ht] at this
    simp only [ph] at this
    simp only
    exact ⟨by omega, fun _ => by omega⟩
  | some t =>
    have hk := h.ok _ _ ht
    have hj := sjoin_ok x.2 t
    have := phi_set T x.1 (some (sjoin x.2 t)) hxT
    rw [ht] at this
    simp only [ph] at this
    have r1 := rank_mono t (sjoin x.2 t) (by rw [hk.len, hj.len]) hk.ok hj.ok (sjoin_le2 hk)
    have r2 := rank_144 hk
    have r3 := rank_144 hj
    simp only
    refine ⟨by omega, fun hne => ?_⟩
    by_cases e : rank t = rank (sjoin x.2 t)
    · exfalso
      apply hne
      rw [← r1.2 e]
      exact tg_same ht hxT
    · omega
structure A6 (p : LProg) (T0 T : Tab) (again : Bool) (at_ : Nat) : Prop where
  tok : Tok p T
  under : Under p T
  first : ∃ s, tg T 0 = some s ∧ Sle kstart s
  less : phi T ≤ phi T0
  still : again = false → T = T0 ∧ ∀ j, j < at_ → ∀ s, tg T j = some s → ∀ x ∈ leadsK p j s (insAt p j), Led p T x
  some_ : again = true → phi T < phi T0
structure K6 (p : LProg) (T0 T : Tab) (again : Bool) (at_ : Nat) (s : KSt) (k : Nat) : Prop where
  a6 : A6 p T0 T again at_
  here : ∃ s', tg T at_ = some s' ∧ Sle s s'
  same : again = false → tg T at_ = some s
  led : again = false → ∀ j, j < k → Led p T ((leads6 p at_ s (insAt p at_)).getD j default)
theorem A6.begin {p : LProg} {T : Tab} (h1 : Tok p T) (h2 : Under p T) (h3 : ∃ s, tg T 0 = some s ∧ Sle kstart s) : A6 p T T false 0 :=
  ⟨h1, h2, h3, Nat.le_refl _, fun _ => ⟨rfl, fun j hj => by omega⟩, fun h => by cases h⟩
theorem A6.skip {p : LProg} {T0 T : Tab} {again : Bool} {at_ : Nat} (h : A6 p T0 T again at_) (hn : tg T at_ = none) : A6 p T0 T again (at_ + 1) :=
  ⟨h.tok, h.under, h.first, h.less, fun e => ⟨(h.still e).1, fun j hj s hs => by
    by_cases hja : j = at_
    · subst hja; rw [hn] at hs; cases hs
    · exact (h.still e).2 j (by omega) s hs⟩, h.some_⟩
theorem K6.begin {p : LProg} {T0 T : Tab} {again : Bool} {at_ : Nat} {s : KSt} (h : A6 p T0 T again at_) (hs : tg T at_ = some s) : K6 p T0 T again at_ s 0 :=
  ⟨h, ⟨s, hs, Sle.refl s⟩, fun _ => hs, fun _ j hj => by omega⟩
theorem K6.beyond {p : LProg} {T0 T : Tab} {again : Bool} {at_ : Nat} {s : KSt} {k : Nat} (h : K6 p T0 T again at_ s k) (hx : p.code.length ≤ ((leads6 p at_ s (insAt p at_)).getD k default).1) : K6 p T0 T again at_ s (k + 1) :=
  ⟨h.a6, h.here, h.same, fun e j hj => by
    by_cases hjk : j = k
    · subst hjk; intro hl; omega
    · exact h.led e j (by omega)⟩
theorem K6.join {p : LProg} {T0 T : Tab} {again : Bool} {at_ : Nat} {s : KSt} {k : Nat} (h : K6 p T0 T again at_ s k) (hs : Sok s) (hk : k < (leads6 p at_ s (insAt p at_)).length) {x : Nat × KSt} (hxe : (leads6 p at_ s (insAt p at_)).getD k default = x) (hx : x.1 < p.code.length) :
    K6 p T0 (joinT T x) (again || decide (joinT T x ≠ T)) at_ s (k + 1) := by
  have hm : x ∈ leadsK p at_ s (insAt p at_) := by
    rw [← leads6_mem, ← hxe]
    simp [hk]
  have hsx := leadsK_ok p at_ hs (insAt p at_) x hm
  have hT := h.a6.tok
  have hup := joinT_above hT hsx hx
  have hph := joinT_phi hT hsx hx
  have hled := joinT_led hT hsx (x := x)
  have hTu := joinT_under hT h.a6.under h.here hs hm hx
  refine ⟨⟨joinT_tok hT hsx hx, hTu, ?_, ?_, fun e => ?_, fun e => ?_⟩, ?_, fun e => ?_, fun e j hj => ?_⟩
  · obtain ⟨t, h1, h2⟩ := h.a6.first
    obtain ⟨u, h3, h4⟩ := hup 0 t h1
    exact ⟨u, h3, h2.trans h4⟩
  · have := h.a6.less
    omega
  · simp only [Bool.or_eq_false_iff, decide_eq_false_iff_not, Decidable.not_not] at e
    rw [e.2]
    exact h.a6.still e.1
  · simp only [Bool.or_eq_true, decide_eq_true_eq] at e
    rcases e with e | e
    · have := h.a6.some_ e
      omega
    · have := h.a6.less
      have := hph.2 e
      omega
  · obtain ⟨t, h1, h2⟩ := h.here
    obtain ⟨u, h3, h4⟩ := hup at_ t h1
    exact ⟨u, h3, h2.trans h4⟩
  · simp only [Bool.or_eq_false_iff, decide_eq_false_iff_not, Decidable.not_not] at e
    rw [e.2]
    exact h.same e.1
  · simp only [Bool.or_eq_false_iff, decide_eq_false_iff_not, Decidable.not_not] at e
    by_cases hjk : j = k
    · subst hjk
      rw [hxe]
      exact hled
    · rw [e.2]
      exact h.led e.1 j (by omega)
theorem K6.end_ {p : LProg} {T0 T : Tab} {again : Bool} {at_ : Nat} {s : KSt} {k : Nat} (h : K6 p T0 T again at_ s k) (hk : (leads6 p at_ s (insAt p at_)).length ≤ k) : A6 p T0 T again (at_ + 1) :=
  ⟨h.a6.tok, h.a6.under, h.a6.first, h.a6.less, fun e => ⟨(h.a6.still e).1, fun j hj t ht x hx => by
    by_cases hja : j = at_
    · subst hja
      rw [h.same e] at ht
      obtain rfl := Option.some.inj ht
      rw [← leads6_mem] at hx
      obtain ⟨n, hn, rfl⟩ := List.getElem_of_mem hx
      have := h.led e n (by omega)
      simpa [hn] using this
    · exact (h.a6.still e).2 j (by omega) t ht x hx⟩, h.a6.some_⟩
theorem A6.least {p : LProg} {T0 T : Tab} {at_ : Nat} (h : A6 p T0 T false at_) (hat : p.code.length ≤ at_) : Least p T :=
  ⟨⟨h.tok, h.first, fun j s hs => (h.still rfl).2 j (by
    have := h.tok.len
    rcases Nat.lt_or_ge j at_ with h1 | h1
    · exact h1
    · exfalso
      unfold tg at hs
      rw [List.getD_eq_getElem?_getD, List.getElem?_eq_none (by omega)] at hs
      cases hs) s hs⟩, h.under⟩
end Go.Proofs.Ytiiollmbogojoaa

namespace Go.Proofs.Ytiiollmbogojoaa
open Go.RowKit
set_option linter.unusedSimpArgs false
set_option linter.unusedVariables false
def pubOk (p : LProg) (m n : List (List Int)) : Bool := (List.range p.regs.length).all fun i => (p.regs.getD i default).secret || decide (m.getD i default = n.getD i default)
theorem in_region : ∀ (l : List LReg) (n : Nat), n < (l.map wordsOf).sum → ∃ r x, r < l.length ∧ x < wordsOf (l.getD r default) ∧ n = ((l.take r).map wordsOf).sum + x
  | [], n, h => by simp at h
  | a :: l, n, h => by
    by_cases hn : n < wordsOf a
    · exact ⟨0, n, by simp, by simpa using hn, by simp⟩
    · simp only [List.map_cons, List.sum_cons] at h
      obtain ⟨r, x, h1, h2, h3⟩ := in_region l (n - wordsOf a) (by omega)
      refine ⟨r + 1, x, by simpa using h1, by simpa using h2, ?_⟩
      simp only [List.take_succ_cons, List.map_cons, List.sum_cons]
      omega
theorem pub_split {p : LProg} {a b : List Int} (ha : a.length = total p) (hb : b.length = total p) : pubOk p (splitW p a) (splitW p b) = true ↔ Pub p a b := by
  unfold pubOk
  simp only [List.all_eq_true, List.mem_range, Bool.or_eq_true, decide_eq_true_eq]
  constructor
  · intro h n hn
    by_cases hlt : n < total p
    · obtain ⟨r, x, h1, h2, h3⟩ := in_region p.regs n hlt
      have h3' : n = baseOf p r + x := h3
      have hs : secW p n = (p.regs.getD r default).secret := by
        unfold secW
        rw [h3]
        exact secAt_base p.regs r x h1 h2
      rw [hn] at hs
      rcases h r h1 with h4 | h4
      · rw [← hs] at h4; cases h4
      · have e1 := split_at (p := p) a h1 h2
        have e2 := split_at (p := p) b h1 h2
        rw [h4, e2] at e1
        rw [h3']
        exact e1.symm
    · rw [List.getD_eq_getElem?_getD, List.getD_eq_getElem?_getD, List.getElem?_eq_none (by omega), List.getElem?_eq_none (by omega)]
  · intro h r hr
    cases hsec : (p.regs.getD r default).secret
    · right
      apply List.ext_getElem (by rw [split_row ha hr, split_row hb hr])
      intro x h1 h2
      have hx : x < wordsOf (p.regs.getD r default) := by rw [split_row ha hr] at h1; exact h1
      have e1 := split_at (p := p) a hr hx
      have e2 := split_at (p := p) b hr hx
      have hs : secW p (baseOf p r + x) = false := by
        unfold secW
        have := secAt_base p.regs r x hr hx
        rw [hsec] at this
        exact this
      have := h _ hs
      rw [← e1, ← e2] at this
      rw [List.getD_eq_getElem?_getD (l := (splitW p a).getD r default), List.getD_eq_getElem?_getD (l := (splitW p b).getD r default), List.getElem?_eq_getElem h1, List.getElem?_eq_getElem h2] at this
      exact this
    · left; rfl
theorem pub_flat {p : LProg} {m n : List (List Int)} (hm : fitsOk p m = true) (hn : fitsOk p n = true) : pubOk p m n = true ↔ Pub p m.flatten n.flatten := by
  have := pub_split (p := p) (flat_total hm) (flat_total hn)
  rwa [split_flat hm, split_flat hn] at this
theorem fits_split {p : LProg} {ws : List Int} (hr : regsOk p.regs = true) (hl : ws.length = total p) : fitsOk p (splitW p ws) = true := by
  unfold fitsOk
  rw [hr, split_len]
  simp only [decide_true, Bool.and_self, Bool.true_and, List.all_eq_true, List.mem_range, decide_eq_true_eq]
  exact fun i hi => split_row hl hi
end Go.Proofs.Ytiiollmbogojoaa
