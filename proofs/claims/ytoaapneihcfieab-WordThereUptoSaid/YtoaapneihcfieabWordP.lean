/- Programs as words, in plain Lean. No program in sight. -/
import Derived.Test.YtoaapneihcfieabCheckL
namespace Go.Proofs.Ytoaapneihcfieab
open Go.RowKit
set_option linter.unusedSimpArgs false
set_option linter.unusedVariables false

def wordI (i : LIns) : Int := (((i.op * 16 + i.a) * 16 + i.b) * 16 + i.c) * 16384 + (if i.n < 0 then i.n + 16384 else i.n)
def insW (w : Int) : LIns := ⟨w / 16384 / 16 / 16 / 16, w / 16384 / 16 / 16 % 16, w / 16384 / 16 % 16, w / 16384 % 16, if 8192 ≤ w % 16384 then w % 16384 - 16384 else w % 16384⟩
def fitsW (i : LIns) : Bool := fitsN i.n
/-- the first instruction from k on whose number does not fit -/
def missW : List LIns → Nat → Option Nat
  | [], _ => none
  | i :: l, k => if fitsW i then missW l (k + 1) else some k
def putW (p : LProg) : List Int × Int × Nat :=
  if !hardOk p then ([], 2, 0)
  else match missW p.code 0 with
    | some k => ([], 3, k)
    | none => (p.code.map wordI, 0, 0)
def progW (r : List LReg) (ws : List Int) : LProg := ⟨r, ws.map insW⟩
def getW (r : List LReg) (ws : List Int) : LProg × Int := if hardOk (progW r ws) then (progW r ws, 0) else (⟨[], []⟩, 2)
structure Small (i : LIns) : Prop where
  op : 0 ≤ i.op ∧ i.op < 64
  a : 0 ≤ i.a ∧ i.a < 16
  b : 0 ≤ i.b ∧ i.b < 16
  c : 0 ≤ i.c ∧ i.c < 16
theorem ins_small {p : LProg} (hr : p.regs.length ≤ 6) {i : LIns} (h : insOk p 10 i = true) : Small i := by
  obtain ⟨g1, g2, g10, g3, g5, g8, g9, g11, go, g7, gop⟩ := ins_regs h
  have hop : 0 ≤ i.op ∧ i.op < 64 := by omega
  have hl : (p.regs.length : Int) ≤ 6 := by omega
  have key : (0 ≤ i.a ∧ i.a < 16) ∧ (0 ≤ i.b ∧ i.b < 16) ∧ (0 ≤ i.c ∧ i.c < 16) := by
    simp only [insOk] at h
    generalize (p.regs.length : Int) = l at *
    generalize (p.code.length : Int) = m at *
    generalize ((wordsOf (p.regs.getD i.c.toNat default) : Nat) : Int) = w at *
    repeat' split at h
    all_goals (simp only [okIn, Bool.and_eq_true, decide_eq_true_eq] at h; omega)
  exact ⟨hop, key.1, key.2.1, key.2.2⟩
theorem word_bd {i : LIns} (h : Small i) (hf : fitsW i = true) : 0 ≤ wordI i ∧ wordI i < 4294967296 := by
  obtain ⟨⟨h1, h2⟩, ⟨h3, h4⟩, ⟨h5, h6⟩, h7, h8⟩ := h
  simp only [fitsW, fitsN, Bool.and_eq_true, decide_eq_true_eq] at hf
  unfold wordI
  split <;> omega
theorem ins_word {i : LIns} (h : Small i) (hf : fitsW i = true) : insW (wordI i) = i := by
  obtain ⟨⟨h1, h2⟩, ⟨h3, h4⟩, ⟨h5, h6⟩, h7, h8⟩ := h
  simp only [fitsW, fitsN, Bool.and_eq_true, decide_eq_true_eq] at hf
  obtain ⟨op, a, b, c, n⟩ := i
  simp only at h1 h2 h3 h4 h5 h6 h7 h8 hf
  have key : ∀ m : Int, 0 ≤ m → m < 16384 → ((((op * 16 + a) * 16 + b) * 16 + c) * 16384 + m) / 16384 = ((op * 16 + a) * 16 + b) * 16 + c ∧ ((((op * 16 + a) * 16 + b) * 16 + c) * 16384 + m) % 16384 = m := by
    intro m m0 m1
    omega
  unfold insW wordI
  simp only
  by_cases hn : n < 0
  · obtain ⟨k1, k2⟩ := key (n + 16384) (by omega) (by omega)
    rw [if_pos hn, k1, k2, if_pos (by omega)]
    have e1 : (((op * 16 + a) * 16 + b) * 16 + c) / 16 = (op * 16 + a) * 16 + b := by omega
    have e2 : ((op * 16 + a) * 16 + b) / 16 = op * 16 + a := by omega
    rw [e1, e2]
    simp only [LIns.mk.injEq]
    exact ⟨by omega, by omega, by omega, by omega, by omega⟩
  · obtain ⟨k1, k2⟩ := key n (by omega) (by omega)
    rw [if_neg hn, k1, k2, if_neg (by omega)]
    have e1 : (((op * 16 + a) * 16 + b) * 16 + c) / 16 = (op * 16 + a) * 16 + b := by omega
    have e2 : ((op * 16 + a) * 16 + b) / 16 = op * 16 + a := by omega
    rw [e1, e2]
    simp only [LIns.mk.injEq]
    exact ⟨by omega, by omega, by omega, by omega, trivial⟩
theorem word_ins (w : Int) : wordI (insW w) = w := by
  have e1 := Int.mul_ediv_add_emod w 16384
  have r0 : 0 ≤ w % 16384 ∧ w % 16384 < 16384 := by omega
  unfold wordI insW
  simp only
  generalize w / 16384 = q at *
  generalize w % 16384 = r at *
  by_cases h : 8192 ≤ r
  · rw [if_pos h, if_pos (by omega)]; omega
  · rw [if_neg h, if_neg (by omega)]; omega
theorem fits_ins (w : Int) : fitsW (insW w) = true := by
  have r0 : 0 ≤ w % 16384 ∧ w % 16384 < 16384 := by omega
  have e : (insW w).n = if 8192 ≤ w % 16384 then w % 16384 - 16384 else w % 16384 := rfl
  simp only [fitsW, fitsN, Bool.and_eq_true, decide_eq_true_eq]
  rw [e]
  by_cases h : 8192 ≤ w % 16384
  · rw [if_pos h]; omega
  · rw [if_neg h]; omega
theorem missW_none {l : List LIns} : ∀ k, (∀ i ∈ l, fitsW i = true) → missW l k = none := by
  induction l with
  | nil => intro k _; rfl
  | cons i l ih =>
    intro k h
    rw [missW, if_pos (h i (by simp))]
    exact ih _ fun j hj => h j (by simp [hj])
theorem missW_all {l : List LIns} : ∀ k, missW l k = none → ∀ i ∈ l, fitsW i = true := by
  induction l with
  | nil => intro k _ i hi; simp at hi
  | cons j l ih =>
    intro k h i hi
    rw [missW] at h
    split at h
    · rename_i hf
      simp only [List.mem_cons] at hi
      rcases hi with rfl | hi
      · exact hf
      · exact ih _ h i hi
    · cases h
/-- a program that has words is read as it -/
theorem get_put {p : LProg} (h : (putW p).2.1 = 0) : hardOk p = true ∧ (putW p).1 = p.code.map wordI ∧ progW p.regs (p.code.map wordI) = p ∧ (∀ i ∈ p.code, fitsW i = true ∧ Small i) := by
  unfold putW at h ⊢
  cases hh : hardOk p
  · rw [hh] at h; simp at h
  · rw [hh] at h
    simp only [Bool.not_true, Bool.false_eq_true, if_false] at h ⊢
    cases hm : missW p.code 0 with
    | some k => rw [hm] at h; simp at h
    | none =>
      have hf := missW_all 0 hm
      have hs : ∀ i ∈ p.code, fitsW i = true ∧ Small i := by
        intro i hi
        obtain ⟨p1, p2, p3, p4⟩ := hard_parts hh
        exact ⟨hf i hi, ins_small (regsOk_len p1) (p4 i hi)⟩
      refine ⟨trivial, rfl, ?_, hs⟩
      unfold progW
      have : (p.code.map wordI).map insW = p.code := by
        rw [List.map_map]
        conv => rhs; rw [← List.map_id p.code]
        apply List.map_congr_left
        intro i hi
        exact ins_word (hs i hi).2 (hs i hi).1
      rw [this]
theorem get_back {p : LProg} (h : (putW p).2.1 = 0) : getW p.regs (putW p).1 = (p, 0) := by
  obtain ⟨h1, h2, h3, h4⟩ := get_put h
  unfold getW
  rw [h2, h3, if_pos h1]
/-- words that are a program: it has just these words -/
theorem put_there {r : List LReg} {ws : List Int} (h : (getW r ws).2 = 0) : (getW r ws).1 = progW r ws ∧ putW (progW r ws) = (ws, 0, 0) := by
  unfold getW at h ⊢
  cases hh : hardOk (progW r ws)
  · rw [hh] at h; simp at h
  · rw [if_pos rfl]
    refine ⟨rfl, ?_⟩
    unfold putW
    rw [hh, missW_none 0 (fun i hi => by
      simp only [progW, List.mem_map] at hi
      obtain ⟨w, _, rfl⟩ := hi
      exact fits_ins w)]
    simp only [progW, List.map_map, Bool.not_true, Bool.false_eq_true, if_false, Prod.mk.injEq, and_true]
    have : wordI ∘ insW = id := by funext w; exact word_ins w
    rw [this, List.map_id]
end Go.Proofs.Ytoaapneihcfieab
