/- Laid together from: LoadP, WordP, LoadQ, LoadS, Ref6P, PubL. -/
import Derived.Test.YtccgnegdinakeaaLoadMakesB6
import Derived.Test.YtccgnegdinakeaaLoadMakesB3

/- Loaded programs in plain Lean: their numbers fit words, they are hard, do the same, and tell nothing, not even ahead of time. No program in sight. -/
namespace Go.Proofs.Ytccgnegdinakeaa
open Go.RowKit
set_option linter.unusedSimpArgs false
set_option linter.unusedVariables false

/-- thirteen bits more -/
def chunkC (to_ c : Int) : List LIns := [⟨1, 9, 0, 0, 13⟩, ⟨27, to_, to_, 9, 0⟩, ⟨1, 9, 0, 0, c⟩, ⟨25, to_, to_, 9, 0⟩]
def chunkN (n : Int) (k : Nat) : Int := n / 2 ^ (13 * k) % 8192
def numC (to_ n : Int) : List LIns :=
  if fitsN n then [⟨1, to_, 0, 0, n⟩]
  else ⟨1, to_, 0, 0, n / 2 ^ 52⟩ :: (chunkC to_ (chunkN n 3) ++ chunkC to_ (chunkN n 2) ++ chunkC to_ (chunkN n 1) ++ chunkC to_ (chunkN n 0))
def insC (i : LIns) : List LIns :=
  if i.op = 1 then numC i.a i.n
  else if i.op = 10 ∧ fitsN i.n = false then numC 8 i.n ++ [⟨21, i.a, i.b, 8, 0⟩]
  else [i]
def placeL (p : LProg) (q : Nat) : Nat := plc insC (hardP p).code q
def loadP (p : LProg) : LProg := ⟨p.regs, ((hardP p).code.flatMap insC).map (reloc (placeL p))⟩

theorem numC_len (to_ n : Int) : (numC to_ n).length = if fitsN n then 1 else 17 := by unfold numC; split <;> rfl
theorem insC_len (i : LIns) : (insC i).length = if i.op = 1 then (if fitsN i.n then 1 else 17) else if i.op = 10 ∧ fitsN i.n = false then 18 else 1 := by
  unfold insC
  split
  · exact numC_len _ _
  · split
    · rename_i h
      rw [List.length_append, numC_len, if_neg (by simp [h.2])]; rfl
    · rfl
theorem insC_ne (i : LIns) : insC i ≠ [] := by
  intro h
  have := insC_len i
  rw [h] at this
  simp only [List.length_nil] at this
  split at this
  · split at this <;> omega
  · split at this <;> omega
theorem insC_le (i : LIns) : (insC i).length ≤ 18 := by
  rw [insC_len]
  split
  · split <;> omega
  · split <;> omega
theorem reloc_op (f : Nat → Nat) (i : LIns) : (reloc f i).op = i.op ∧ (reloc f i).a = i.a ∧ (reloc f i).b = i.b ∧ (reloc f i).c = i.c := by unfold reloc; split <;> simp
theorem insC_reloc_len (f : Nat → Nat) (i : LIns) : (insC (reloc f i)).length = (insC i).length := by
  by_cases h : i.op = 7 ∨ i.op = 8
  · rw [insC_len, insC_len, (reloc_op f i).1, if_neg (by omega), if_neg (by omega), if_neg (by omega), if_neg (by omega)]
  · rw [reloc_other h]
theorem block_load_le (p : LProg) (f : Nat → Nat) (i : LIns) : (((blockH p i).map (reloc f)).flatMap insC).length ≤ 20 := by
  unfold blockH
  split
  · rename_i h
    simp only [List.map_cons, List.map_nil, List.flatMap_cons, List.flatMap_nil, List.length_append, List.length_nil, insC_reloc_len]
    have h1 := insC_le ⟨10, 8, i.b, 0, i.n⟩
    have h2 : (insC ⟨11, 8, 0, 0, ((wordsOf (regOf p i) : Nat) : Int)⟩).length = 1 := by simp [insC_len]
    have h3 : (insC ⟨i.op, i.a, 8, i.c, 0⟩).length = 1 := by
      rw [insC_len]; simp only; rw [if_neg (by omega), if_neg (by omega)]
    omega
  · simp only [List.map_cons, List.map_nil, List.flatMap_cons, List.flatMap_nil, List.append_nil, insC_reloc_len]
    have := insC_le i
    omega
theorem load_len_aux (p : LProg) (f : Nat → Nat) : ∀ l : List LIns, (((l.flatMap (blockH p)).map (reloc f)).flatMap insC).length ≤ 20 * l.length
  | [] => by simp
  | i :: l => by
    have h1 := block_load_le p f i
    have h2 := load_len_aux p f l
    rw [List.flatMap_cons, List.map_append, List.flatMap_append, List.length_append, List.length_cons, Nat.mul_succ]
    omega
theorem load_len (p : LProg) : (loadP p).code.length ≤ 20 * p.code.length := by
  simp only [loadP, List.length_map]
  exact load_len_aux p (placeH p) p.code
theorem placeL_lt {p : LProg} {q : Nat} (h : q < (hardP p).code.length) : placeL p q < (loadP p).code.length := by
  simp only [loadP, List.length_map]
  exact plc_lt _ insC_ne _ h
theorem load_get {p : LProg} {q : Nat} {x : LIns} (h : (hardP p).code[q]? = some x) (t : Nat) (ht : t < (insC x).length) : (loadP p).code[placeL p q + t]? = ((insC x)[t]?).map (reloc (placeL p)) := by
  simp only [loadP, List.getElem?_map]
  rw [show ((hardP p).code.flatMap insC)[placeL p q + t]? = (insC x)[t]? from flat_get insC (hardP p).code h t ht]
theorem placeL_succ {p : LProg} {q : Nat} {x : LIns} (h : (hardP p).code[q]? = some x) : placeL p (q + 1) = placeL p q + (insC x).length := plc_succ insC _ h

/-! which instructions stand there -/
theorem chunkN_bd (n : Int) (k : Nat) : 0 ≤ chunkN n k ∧ chunkN n k < 8192 := by unfold chunkN; omega
/-- behind the first one -/
theorem numC_inner {to_ n : Int} (h : fitsN n = false) (t : Nat) (h1 : 1 ≤ t) (h2 : t < 17) :
    (∃ c, 0 ≤ c ∧ c < 8192 ∧ (numC to_ n)[t]? = some ⟨1, 9, 0, 0, c⟩ ∧ t ≠ 16) ∨ (2 ≤ t ∧ t ≠ 16 ∧ (numC to_ n)[t]? = some ⟨27, to_, to_, 9, 0⟩) ∨ (2 ≤ t ∧ (numC to_ n)[t]? = some ⟨25, to_, to_, 9, 0⟩) := by
  have b3 := chunkN_bd n 3
  have b2 := chunkN_bd n 2
  have b1 := chunkN_bd n 1
  have b0 := chunkN_bd n 0
  unfold numC
  rw [if_neg (by simp [h])]
  have ht : t = 1 ∨ t = 2 ∨ t = 3 ∨ t = 4 ∨ t = 5 ∨ t = 6 ∨ t = 7 ∨ t = 8 ∨ t = 9 ∨ t = 10 ∨ t = 11 ∨ t = 12 ∨ t = 13 ∨ t = 14 ∨ t = 15 ∨ t = 16 := by omega
  rcases ht with rfl | rfl | rfl | rfl | rfl | rfl | rfl | rfl | rfl | rfl | rfl | rfl | rfl | rfl | rfl | rfl
  · exact .inl ⟨13, by omega, by omega, rfl, by omega⟩
  · exact .inr (.inl ⟨by omega, by omega, rfl⟩)
  · exact .inl ⟨_, b3.1, b3.2, rfl, by omega⟩
  · exact .inr (.inr ⟨by omega, rfl⟩)
  · exact .inl ⟨13, by omega, by omega, rfl, by omega⟩
  · exact .inr (.inl ⟨by omega, by omega, rfl⟩)
  · exact .inl ⟨_, b2.1, b2.2, rfl, by omega⟩
  · exact .inr (.inr ⟨by omega, rfl⟩)
  · exact .inl ⟨13, by omega, by omega, rfl, by omega⟩
  · exact .inr (.inl ⟨by omega, by omega, rfl⟩)
  · exact .inl ⟨_, b1.1, b1.2, rfl, by omega⟩
  · exact .inr (.inr ⟨by omega, rfl⟩)
  · exact .inl ⟨13, by omega, by omega, rfl, by omega⟩
  · exact .inr (.inl ⟨by omega, by omega, rfl⟩)
  · exact .inl ⟨_, b0.1, b0.2, rfl, by omega⟩
  · exact .inr (.inr ⟨by omega, rfl⟩)
theorem numC_first {to_ n : Int} (h : fitsN n = false) : (numC to_ n)[0]? = some ⟨1, to_, 0, 0, n / 2 ^ 52⟩ := by
  unfold numC
  rw [if_neg (by simp [h])]; rfl
def bigI (i : LIns) : Prop := (i.op = 1 ∨ i.op = 10) ∧ fitsN i.n = false
def toI (i : LIns) : Int := if i.op = 1 then i.a else 8
theorem set_plain {p : LProg} {R : Int} {i : LIns} (h : insOk p R i = true) (h1 : i.op = 1) : i.b = 0 ∧ i.c = 0 := by
  simp only [insOk] at h
  simp [h1, okIn] at h
  omega
theorem insC_small {p : LProg} {R : Int} {i : LIns} (hi : insOk p R i = true) (h : ¬ bigI i) : insC i = [i] := by
  unfold bigI at h
  unfold insC
  split
  · rename_i h1
    have hf : fitsN i.n = true := by
      cases hf : fitsN i.n
      · exact absurd ⟨.inl h1, hf⟩ h
      · rfl
    obtain ⟨hb, hc⟩ := set_plain hi h1
    unfold numC
    rw [if_pos hf]
    cases i
    simp only at h1 hb hc
    subst h1 hb hc
    rfl
  · rw [if_neg (by rintro ⟨a, b⟩; exact h ⟨.inr a, b⟩)]
theorem insC_big {i : LIns} (h : bigI i) : insC i = numC (toI i) i.n ++ (if i.op = 1 then [] else [⟨21, i.a, i.b, 8, 0⟩]) ∧ (insC i).length = if i.op = 1 then 17 else 18 := by
  obtain ⟨h1, h2⟩ := h
  have hl := insC_len i
  unfold insC toI at *
  by_cases e : i.op = 1
  · rw [if_pos e] at hl
    simp only [if_pos e] at hl ⊢
    rw [if_neg (by simp [h2])] at hl
    exact ⟨by simp, hl⟩
  · have e10 : i.op = 10 := by omega
    simp only [if_neg e, if_pos (show i.op = 10 ∧ fitsN i.n = false from ⟨e10, h2⟩)] at hl ⊢
    exact ⟨trivial, hl⟩
/-- behind the first one -/
theorem insC_inner {i : LIns} (h : bigI i) (t : Nat) (h1 : 1 ≤ t) (h2 : t < (insC i).length) :
    (∃ c, 0 ≤ c ∧ c < 8192 ∧ (insC i)[t]? = some ⟨1, 9, 0, 0, c⟩ ∧ t + 1 < (insC i).length) ∨ (2 ≤ t ∧ t + 1 < (insC i).length ∧ (insC i)[t]? = some ⟨27, toI i, toI i, 9, 0⟩) ∨ (2 ≤ t ∧ (insC i)[t]? = some ⟨25, toI i, toI i, 9, 0⟩) ∨
      (2 ≤ t ∧ t + 1 = (insC i).length ∧ i.op = 10 ∧ (insC i)[t]? = some ⟨21, i.a, i.b, 8, 0⟩) := by
  obtain ⟨e1, e2⟩ := insC_big h
  rw [e2] at h2 ⊢
  have hnl : (numC (toI i) i.n).length = 17 := by rw [numC_len, if_neg (by simp [h.2])]
  rcases Nat.lt_or_ge t 17 with ht | ht
  · rw [e1, List.getElem?_append_left (by omega)]
    rcases numC_inner (to_ := toI i) h.2 t h1 ht with ⟨c, c0, c1, c2, c3⟩ | ⟨c1, c2, c3⟩ | ⟨c1, c2⟩
    · exact .inl ⟨c, c0, c1, c2, by split <;> omega⟩
    · exact .inr (.inl ⟨c1, by split <;> omega, c3⟩)
    · exact .inr (.inr (.inl ⟨c1, c2⟩))
  · have e10 : i.op ≠ 1 := by
      intro e
      rw [if_pos e] at h2; omega
    rw [if_neg e10] at h2 ⊢
    obtain rfl : t = 17 := by omega
    refine .inr (.inr (.inr ⟨by omega, by omega, by have := h.1; omega, ?_⟩))
    rw [e1, if_neg e10, List.getElem?_append_right (by omega), hnl]
    rfl
theorem insC_first {i : LIns} (h : bigI i) : (insC i)[0]? = some ⟨1, toI i, 0, 0, i.n / 2 ^ 52⟩ := by
  obtain ⟨e1, e2⟩ := insC_big h
  rw [e1, List.getElem?_append_left (by rw [numC_len, if_neg (by simp [h.2])]; omega)]
  exact numC_first h.2
/-- what the hardened program's instructions name -/
structure InsH (p : LProg) (i : LIns) : Prop where
  ok : insOk (hardP p) 10 i = true
  b8 : i.op = 10 → okIn 8 i.b = true
  a9 : i.op = 1 ∨ i.op = 10 → okIn 9 i.a = true
  n64 : R64 i.n
theorem hard_ins {p : LProg} (hm : mayOk p = true) (hn : ∀ i ∈ p.code, R64 i.n) : ∀ i ∈ (hardP p).code, InsH p i := by
  intro x hx
  have h1 := (hard_parts (hard_hard hm)).2.2.2 x hx
  obtain ⟨q, hq, rfl⟩ := List.getElem_of_mem hx
  have hlen : (hardP p).code.length ≤ 600 := by
    have := hardP_len p
    have := (may_parts hm).2.2.1
    omega
  have hq' : q < (p.code.flatMap (blockH p)).length := by simpa [hardP, rawH] using hq
  obtain ⟨k, i, j, e1, e2, e3⟩ := flat_at (blockH p) p.code q hq'
  have hmi := List.mem_of_getElem? e1
  have hi := (may_parts hm).2.2.2 i hmi
  obtain ⟨g1, g2, g10, g3, g5, g8, g9, g11, go, g7, gop⟩ := ins_regs hi
  have key : ∀ y, (hardP p).code[q]? = some y → (y.op = 10 → okIn 8 y.b = true) ∧ (y.op = 1 ∨ y.op = 10 → okIn 9 y.a = true) ∧ R64 y.n := by
    intro y hy
    by_cases h3 : i.op = 3 ∨ i.op = 4
    · obtain ⟨a1, a2, a3, a4⟩ := hard_three e1 h3
      rw [blockH_len, if_pos h3] at e2
      have hj : j = 0 ∨ j = 1 ∨ j = 2 := by omega
      unfold placeH at a1 a2 a3
      rcases hj with rfl | rfl | rfl
      · rw [e3, Nat.add_zero, a1] at hy
        obtain rfl := Option.some.inj hy
        exact ⟨fun _ => (g3 h3).2, fun _ => by simp [okIn], hn i hmi⟩
      · rw [e3, a2] at hy
        obtain rfl := Option.some.inj hy
        have hc := (region_there hi (by simp only [isPut, isTake, Bool.or_eq_true, decide_eq_true_eq]; omega))
        have hw := words_le (regOf p i) (regsOk_log (may_parts hm).1 (regOf p i) (by unfold regOf; simp [hc.2])).2
        exact ⟨fun e => by simp at e, fun e => by simp at e, by simp only [R64]; omega⟩
      · rw [e3, a3] at hy
        obtain rfl := Option.some.inj hy
        exact ⟨fun e => by simp only at e; omega, fun e => by simp only at e; omega, by simp only [R64]; omega⟩
    · obtain ⟨a1, a2⟩ := hard_one e1 h3
      rw [blockH_len, if_neg h3] at e2
      obtain rfl : j = 0 := by omega
      unfold placeH at a1
      rw [e3, Nat.add_zero, a1] at hy
      obtain rfl := Option.some.inj hy
      obtain ⟨r1, r2, r3, r4⟩ := reloc_op (plc (blockH p) p.code) i
      rw [r1, r2, r3]
      refine ⟨fun e => (g10 e).2, fun e => ?_, ?_⟩
      · rcases e with e | e
        · exact okIn_mono (by omega) (g1 e)
        · exact okIn_mono (by omega) (g10 e).1
      · unfold reloc
        split
        · rename_i h78
          have h1 := placeH_lt (g7 h78).2
          unfold placeH at h1
          simp only [R64]
          omega
        · exact hn i hmi
  obtain ⟨k1, k2, k3⟩ := key _ (List.getElem?_eq_getElem hq)
  exact ⟨h1, k1, k2, k3⟩
theorem load_small {p : LProg} {q : Nat} {x : LIns} (hx : InsH p x) (h : (hardP p).code[q]? = some x) (hb : ¬ bigI x) : (loadP p).code[placeL p q]? = some (reloc (placeL p) x) ∧ placeL p (q + 1) = placeL p q + 1 := by
  have e := insC_small hx.ok hb
  have h1 := load_get h 0 (by rw [e]; simp)
  have h2 := placeL_succ h
  rw [e] at h1 h2
  exact ⟨by simpa using h1, h2⟩
theorem load_inner {p : LProg} {q : Nat} {x : LIns} (h : (hardP p).code[q]? = some x) {t : Nat} {y : LIns} (hy : (insC x)[t]? = some y) (h7 : ¬ (y.op = 7 ∨ y.op = 8)) : (loadP p).code[placeL p q + t]? = some y := by
  rw [load_get h t (List.getElem?_eq_some_iff.1 hy).1, hy]
  simp [reloc_other h7]
/-- LOADED, IT IS HARD, AND ITS NUMBERS FIT -/
theorem load_ins {p : LProg} (hm : mayOk p = true) (hn : ∀ i ∈ p.code, R64 i.n) : ∀ y ∈ (loadP p).code, insOk (loadP p) 10 y = true ∧ fitsN y.n = true := by
  intro y hy
  have hll := load_len p
  have hm2 := (may_parts hm).2.2.1
  obtain ⟨q', hq', rfl⟩ := List.getElem_of_mem hy
  have hq2 : q' < ((hardP p).code.flatMap insC).length := by simpa [loadP] using hq'
  obtain ⟨q, x, t, e1, e2, e3⟩ := flat_at insC (hardP p).code q' hq2
  have hx := hard_ins hm hn x (List.mem_of_getElem? e1)
  suffices h : ∀ z, (loadP p).code[q']? = some z → insOk (loadP p) 10 z = true ∧ fitsN z.n = true from h _ (List.getElem?_eq_getElem hq')
  intro z hz
  have e3' : q' = placeL p q + t := e3
  rw [e3'] at hz
  by_cases hb : bigI x
  · have hto : okIn 9 (toI x) = true := by
      unfold toI
      split
      · rename_i h; exact hx.a9 (.inl h)
      · simp [okIn]
    rw [okIn_iff] at hto
    by_cases h0 : t = 0
    · subst h0
      rw [load_inner e1 (insC_first hb) (by simp)] at hz
      obtain rfl := Option.some.inj hz
      have := hx.n64
      unfold R64 at this
      refine ⟨by simp [insOk, okIn]; omega, ?_⟩
      simp [fitsN]
      omega
    · rcases insC_inner hb t (by omega) e2 with ⟨c, c0, c1, c2, c3⟩ | ⟨c1, c2, c3⟩ | ⟨c1, c2⟩ | ⟨c1, c2, c3, c4⟩
      · rw [load_inner e1 c2 (by simp)] at hz
        obtain rfl := Option.some.inj hz
        refine ⟨by simp [insOk, okIn], ?_⟩
        simp [fitsN]
        omega
      · rw [load_inner e1 c3 (by simp)] at hz
        obtain rfl := Option.some.inj hz
        refine ⟨by simp [insOk, okIn]; omega, by simp [fitsN]⟩
      · rw [load_inner e1 c2 (by simp)] at hz
        obtain rfl := Option.some.inj hz
        refine ⟨by simp [insOk, okIn]; omega, by simp [fitsN]⟩
      · rw [load_inner e1 c4 (by simp)] at hz
        obtain rfl := Option.some.inj hz
        have h1 := hx.b8 c3
        have h2 := hx.a9 (.inr c3)
        rw [okIn_iff] at h1 h2
        refine ⟨by simp [insOk, okIn]; omega, by simp [fitsN]⟩
  · obtain ⟨a1, a2⟩ := load_small hx e1 hb
    have e := insC_small hx.ok hb
    rw [e] at e2
    simp at e2
    subst e2
    rw [Nat.add_zero, a1] at hz
    obtain rfl := Option.some.inj hz
    obtain ⟨g1, g2, g10, g3, g5, g8, g9, g11, go, g7, gop⟩ := ins_regs hx.ok
    by_cases e78 : x.op = 7 ∨ x.op = 8
    · have ht := placeL_lt (g7 e78).2
      have hok := hx.ok
      unfold reloc
      rw [if_pos e78]
      simp only [insOk] at hok ⊢
      rcases e78 with e | e
      · simp [e, okIn, fitsN] at hok ⊢; omega
      · simp [e, okIn, fitsN] at hok ⊢; omega
    · rw [reloc_other e78]
      refine ⟨insOk_regs (p := hardP p) (q := loadP p) rfl hx.ok e78, ?_⟩
      have hok := hx.ok
      simp only [fitsN, Bool.and_eq_true, decide_eq_true_eq]
      by_cases h1 : x.op = 1 ∨ x.op = 10
      · have : fitsN x.n = true := by
          cases hf : fitsN x.n
          · exact absurd ⟨h1, hf⟩ hb
          · rfl
        simpa [fitsN] using this
      by_cases h3 : x.op = 3 ∨ x.op = 4
      · -- a word's number is 0
        obtain ⟨k, i, j, f1, f2, f3⟩ := flat_at (blockH p) p.code q (by simpa [hardP, rawH] using (List.getElem?_eq_some_iff.1 e1).1)
        by_cases hi3 : i.op = 3 ∨ i.op = 4
        · obtain ⟨b1, b2, b3, b4⟩ := hard_three f1 hi3
          rw [blockH_len, if_pos hi3] at f2
          have hj : j = 0 ∨ j = 1 ∨ j = 2 := by omega
          unfold placeH at b1 b2 b3
          rcases hj with rfl | rfl | rfl
          · rw [f3, Nat.add_zero, b1] at e1
            obtain rfl := Option.some.inj e1
            simp at h3
          · rw [f3, b2] at e1
            obtain rfl := Option.some.inj e1
            simp at h3
          · rw [f3, b3] at e1
            obtain rfl := Option.some.inj e1
            simp
        · obtain ⟨b1, b2⟩ := hard_one f1 hi3
          rw [blockH_len, if_neg hi3] at f2
          obtain rfl : j = 0 := by omega
          unfold placeH at b1
          rw [f3, Nat.add_zero, b1] at e1
          obtain rfl := Option.some.inj e1
          rw [(reloc_op _ i).1] at h3
          exact absurd h3 hi3
      by_cases h11 : x.op = 11
      · have := g11 h11; omega
      simp only [insOk] at hok
      by_cases h5 : x.op = 5 ∨ x.op = 6
      · rw [if_neg (by omega), if_neg (by omega), if_neg (by omega), if_neg h3, if_pos h5] at hok
        simp only [okIn, Bool.and_eq_true, decide_eq_true_eq] at hok
        have hc := region_there hx.ok (by simp only [isPut, isTake, Bool.or_eq_true, decide_eq_true_eq]; omega)
        have hw := words_le ((hardP p).regs.getD x.c.toNat default) (regsOk_log (may_parts hm).1 _ (by
          have : x.c.toNat < p.regs.length := hc.2
          show p.regs.getD x.c.toNat default ∈ p.regs
          simp [this])).2
        omega
      · have h0 : x.n = 0 := by
          by_cases h2 : x.op = 2
          · simp [h2, okIn] at hok; omega
          by_cases h9 : x.op = 9
          · simp [h9, okIn] at hok; omega
          by_cases h12 : x.op = 12
          · simp [h12, okIn] at hok; omega
          rw [if_neg (by omega), if_neg h2, if_neg (by omega), if_neg h3, if_neg h5, if_neg (by omega), if_neg (by omega), if_neg h9, if_neg h11, if_neg h12] at hok
          simp [okIn] at hok; omega
        omega
theorem load_hard {p : LProg} (hm : mayOk p = true) (hn : ∀ i ∈ p.code, R64 i.n) : hardOk (loadP p) = true := by
  obtain ⟨m1, m2, m3, m4⟩ := may_parts hm
  have hl := load_len p
  have h0 := placeH_lt (p := p) (k := 0) (by omega)
  have h1 := placeL_lt (p := p) (q := 0) (by omega)
  simp only [hardOk, progOk, Bool.and_eq_true, decide_eq_true_eq, List.all_eq_true]
  exact ⟨⟨⟨m1, by omega⟩, by omega⟩, fun x hx => (load_ins hm hn x hx).1⟩
end Go.Proofs.Ytccgnegdinakeaa
/- Programs as words, in plain Lean. No program in sight. -/
namespace Go.Proofs.Ytccgnegdinakeaa
open Go.RowKit
set_option linter.unusedSimpArgs false
set_option linter.unusedVariables false

def wordI (i : LIns) : Int := (((i.op * 16 + i.a) * 16 + i.b) * 16 + i.c) * 16384 + (if i.n < 0 then i.n + 16384 else i.n)
def insW (w : Int) : LIns := ⟨w / 16384 / 16 / 16 / 16, w / 16384 / 16 / 16 % 16, w / 16384 / 16 % 16, w / 16384 % 16, if 8192 ≤ w % 16384 then w % 16384 - 16384 else w % 16384⟩
def fitsW (i : LIns) : Bool := fitsN i.n
/-- the first instruction from k on whose number does not fit -/
def missW : List LIns → Nat → Option Nat
  | [], _ => none
  | i :: l, k => if fitsW i then missW l (k + 1) else some k
def putW (p : LProg) : List Int × Int × Nat :=
  if !hardOk p then ([], 2, 0)
  else match missW p.code 0 with
    | some k => ([], 3, k)
    | none => (p.code.map wordI, 0, 0)
def progW (r : List LReg) (ws : List Int) : LProg := ⟨r, ws.map insW⟩
def getW (r : List LReg) (ws : List Int) : LProg × Int := if hardOk (progW r ws) then (progW r ws, 0) else (⟨[], []⟩, 2)
structure Small (i : LIns) : Prop where
  op : 0 ≤ i.op ∧ i.op < 64
  a : 0 ≤ i.a ∧ i.a < 16
  b : 0 ≤ i.b ∧ i.b < 16
  c : 0 ≤ i.c ∧ i.c < 16
theorem ins_small {p : LProg} (hr : p.regs.length ≤ 6) {i : LIns} (h : insOk p 10 i = true) : Small i := by
  obtain ⟨g1, g2, g10, g3, g5, g8, g9, g11, go, g7, gop⟩ := ins_regs h
  have hop : 0 ≤ i.op ∧ i.op < 64 := by omega
  have hl : (p.regs.length : Int) ≤ 6 := by omega
  have key : (0 ≤ i.a ∧ i.a < 16) ∧ (0 ≤ i.b ∧ i.b < 16) ∧ (0 ≤ i.c ∧ i.c < 16) := by
    simp only [insOk] at h
    generalize (p.regs.length : Int) = l at *
    generalize (p.code.length : Int) = m at *
    generalize ((wordsOf (p.regs.getD i.c.toNat default) : Nat) : Int) = w at *
    repeat' split at h
    all_goals (simp only [okIn, Bool.and_eq_true, decide_eq_true_eq] at h; omega)
  exact ⟨hop, key.1, key.2.1, key.2.2⟩
theorem word_bd {i : LIns} (h : Small i) (hf : fitsW i = true) : 0 ≤ wordI i ∧ wordI i < 4294967296 := by
  obtain ⟨⟨h1, h2⟩, ⟨h3, h4⟩, ⟨h5, h6⟩, h7, h8⟩ := h
  simp only [fitsW, fitsN, Bool.and_eq_true, decide_eq_true_eq] at hf
  unfold wordI
  split <;> omega
theorem ins_word {i : LIns} (h : Small i) (hf : fitsW i = true) : insW (wordI i) = i := by
  obtain ⟨⟨h1, h2⟩, ⟨h3, h4⟩, ⟨h5, h6⟩, h7, h8⟩ := h
  simp only [fitsW, fitsN, Bool.and_eq_true, decide_eq_true_eq] at hf
  obtain ⟨op, a, b, c, n⟩ := i
  simp only at h1 h2 h3 h4 h5 h6 h7 h8 hf
  have key : ∀ m : Int, 0 ≤ m → m < 16384 → ((((op * 16 + a) * 16 + b) * 16 + c) * 16384 + m) / 16384 = ((op * 16 + a) * 16 + b) * 16 + c ∧ ((((op * 16 + a) * 16 + b) * 16 + c) * 16384 + m) % 16384 = m := by
    intro m m0 m1
    omega
  unfold insW wordI
  simp only
  by_cases hn : n < 0
  · obtain ⟨k1, k2⟩ := key (n + 16384) (by omega) (by omega)
    rw [if_pos hn, k1, k2, if_pos (by omega)]
    have e1 : (((op * 16 + a) * 16 + b) * 16 + c) / 16 = (op * 16 + a) * 16 + b := by omega
    have e2 : ((op * 16 + a) * 16 + b) / 16 = op * 16 + a := by omega
    rw [e1, e2]
    simp only [LIns.mk.injEq]
    exact ⟨by omega, by omega, by omega, by omega, by omega⟩
  · obtain ⟨k1, k2⟩ := key n (by omega) (by omega)
    rw [if_neg hn, k1, k2, if_neg (by omega)]
    have e1 : (((op * 16 + a) * 16 + b) * 16 + c) / 16 = (op * 16 + a) * 16 + b := by omega
    have e2 : ((op * 16 + a) * 16 + b) / 16 = op * 16 + a := by omega
    rw [e1, e2]
    simp only [LIns.mk.injEq]
    exact ⟨by omega, by omega, by omega, by omega, trivial⟩
theorem missW_none {l : List LIns} : ∀ k, (∀ i ∈ l, fitsW i = true) → missW l k = none := by
  induction l with
  | nil => intro k _; rfl
  | cons i l ih =>
    intro k h
    rw [missW, if_pos (h i (by simp))]
    exact ih _ fun j hj => h j (by simp [hj])
theorem missW_all {l : List LIns} : ∀ k, missW l k = none → ∀ i ∈ l, fitsW i = true := by
  induction l with
  | nil => intro k _ i hi; simp at hi
  | cons j l ih =>
    intro k h i hi
    rw [missW] at h
    split at h
    · rename_i hf
      simp only [List.mem_cons] at hi
      rcases hi with rfl | hi
      · exact hf
      · exact ih _ h i hi
    · cases h
/-- a program that has words is read as it -/
theorem get_put {p : LProg} (h : (putW p).2.1 = 0) : hardOk p = true ∧ (putW p).1 = p.code.map wordI ∧ progW p.regs (p.code.map wordI) = p ∧ (∀ i ∈ p.code, fitsW i = true ∧ Small i) := by
  unfold putW at h ⊢
  cases hh : hardOk p
  · rw [hh] at h; simp at h
  · rw [hh] at h
    simp only [Bool.not_true, Bool.false_eq_true, if_false] at h ⊢
    cases hm : missW p.code 0 with
    | some k => rw [hm] at h; simp at h
    | none =>
      have hf := missW_all 0 hm
      have hs : ∀ i ∈ p.code, fitsW i = true ∧ Small i := by
        intro i hi
        obtain ⟨p1, p2, p3, p4⟩ := hard_parts hh
        exact ⟨hf i hi, ins_small (regsOk_len p1) (p4 i hi)⟩
      refine ⟨trivial, rfl, ?_, hs⟩
      unfold progW
      have : (p.code.map wordI).map insW = p.code := by
        rw [List.map_map]
        conv => rhs; rw [← List.map_id p.code]
        apply List.map_congr_left
        intro i hi
        exact ins_word (hs i hi).2 (hs i hi).1
      rw [this]
theorem get_back {p : LProg} (h : (putW p).2.1 = 0) : getW p.regs (putW p).1 = (p, 0) := by
  obtain ⟨h1, h2, h3, h4⟩ := get_put h
  unfold getW
  rw [h2, h3, if_pos h1]
end Go.Proofs.Ytccgnegdinakeaa
/- Loaded programs do the same, and tell nothing, not even ahead of time. No program in sight. -/
namespace Go.Proofs.Ytccgnegdinakeaa
open Go.RowKit
set_option linter.unusedSimpArgs false
set_option linter.unusedVariables false

/-! labels -/
end Go.Proofs.Ytccgnegdinakeaa
/- Loaded programs do the same. No program in sight. -/
namespace Go.Proofs.Ytccgnegdinakeaa
open Go.RowKit
set_option linter.unusedSimpArgs false
set_option linter.unusedVariables false

/-! instructions of registers alone, in a row -/
/-! numbers -/
end Go.Proofs.Ytccgnegdinakeaa
/- The reference's rounds over all instructions (chapter 6), plainly: what is known in every round; the table is the least at the end. No program in sight. -/
namespace Go.Proofs.Ytccgnegdinakeaa
open Go
set_option linter.unusedVariables false
set_option linter.unusedSimpArgs false

/-- where an instruction leads, as the reference lists it -/
def leads6 (p : LProg) (at_ : Nat) (s : KSt) (i : LIns) : List (Nat × KSt) :=
  if i.op = 7 then [(i.n.toNat, s)]
  else if i.op = 9 then []
  else if i.op = 8 then [(i.n.toNat, branchK s i true), (at_ + 1, branchK s i false)]
  else [(at_ + 1, oneK p s i)]
theorem leads6_mem (p : LProg) (at_ : Nat) (s : KSt) (i : LIns) (x : Nat × KSt) : x ∈ leads6 p at_ s i ↔ x ∈ leadsK p at_ s i := by
  unfold leads6 leadsK
  repeat' split
  all_goals simp
  exact Or.comm
theorem leads6_len (p : LProg) (at_ : Nat) (s : KSt) (i : LIns) : (leads6 p at_ s i).length ≤ 2 := by
  unfold leads6
  repeat' split
  all_goals simp
theorem joinT_phi {p : LProg} {T : Tab} (h : Tok p T) {x : Nat × KSt} (hs : Sok x.2) (hx : x.1 < p.code.length) : phi (joinT T x) ≤ phi T ∧ (joinT T x ≠ T → phi (joinT T x) < phi T) := by
  have hxT : x.1 < T.length := by rw [h.len]; exact hx
  unfold joinT
  cases ht : tg T x.1 with
  | none =>
    have := phi_set T x.1 (some x.2) hxT
    rw [ht] at this
    simp only [ph] at this
    simp only
    exact ⟨by omega, fun _ => by omega⟩
  | some t =>
    have hk := h.ok _ _ ht
    have hj := sjoin_ok x.2 t
    have := phi_set T x.1 (some (sjoin x.2 t)) hxT
    rw [ht] at this
    simp only [ph] at this
    have r1 := rank_mono t (sjoin x.2 t) (by rw [hk.len, hj.len]) hk.ok hj.ok (sjoin_le2 hk)
    have r2 := rank_144 hk
    have r3 := rank_144 hj
    simp only
    refine ⟨by omega, fun hne => ?_⟩
    by_cases e : rank t = rank (sjoin x.2 t)
    · exfalso
      apply hne
      rw [← r1.2 e]
      exact tg_same ht hxT
    · omega

/-- what is known in a round, at an instruction -/
structure A6 (p : LProg) (T0 T : Tab) (again : Bool) (at_ : Nat) : Prop where
  tok : Tok p T
  under : Under p T
  first : ∃ s, tg T 0 = some s ∧ Sle kstart s
  less : phi T ≤ phi T0
  still : again = false → T = T0 ∧ ∀ j, j < at_ → ∀ s, tg T j = some s → ∀ x ∈ leadsK p j s (insAt p j), Led p T x
  some_ : again = true → phi T < phi T0
structure K6 (p : LProg) (T0 T : Tab) (again : Bool) (at_ : Nat) (s : KSt) (k : Nat) : Prop where
  a6 : A6 p T0 T again at_
  here : ∃ s', tg T at_ = some s' ∧ Sle s s'
  same : again = false → tg T at_ = some s
  led : again = false → ∀ j, j < k → Led p T ((leads6 p at_ s (insAt p at_)).getD j default)
theorem A6.begin {p : LProg} {T : Tab} (h1 : Tok p T) (h2 : Under p T) (h3 : ∃ s, tg T 0 = some s ∧ Sle kstart s) : A6 p T T false 0 :=
  ⟨h1, h2, h3, Nat.le_refl _, fun _ => ⟨rfl, fun j hj => by omega⟩, fun h => by cases h⟩
theorem A6.skip {p : LProg} {T0 T : Tab} {again : Bool} {at_ : Nat} (h : A6 p T0 T again at_) (hn : tg T at_ = none) : A6 p T0 T again (at_ + 1) :=
  ⟨h.tok, h.under, h.first, h.less, fun e => ⟨(h.still e).1, fun j hj s hs => by
    by_cases hja : j = at_
    · subst hja; rw [hn] at hs; cases hs
    · exact (h.still e).2 j (by omega) s hs⟩, h.some_⟩
theorem K6.begin {p : LProg} {T0 T : Tab} {again : Bool} {at_ : Nat} {s : KSt} (h : A6 p T0 T again at_) (hs : tg T at_ = some s) : K6 p T0 T again at_ s 0 :=
  ⟨h, ⟨s, hs, Sle.refl s⟩, fun _ => hs, fun _ j hj => by omega⟩
theorem K6.beyond {p : LProg} {T0 T : Tab} {again : Bool} {at_ : Nat} {s : KSt} {k : Nat} (h : K6 p T0 T again at_ s k) (hx : p.code.length ≤ ((leads6 p at_ s (insAt p at_)).getD k default).1) : K6 p T0 T again at_ s (k + 1) :=
  ⟨h.a6, h.here, h.same, fun e j hj => by
    by_cases hjk : j = k
    · subst hjk; intro hl; omega
    · exact h.led e j (by omega)⟩
theorem K6.join {p : LProg} {T0 T : Tab} {again : Bool} {at_ : Nat} {s : KSt} {k : Nat} (h : K6 p T0 T again at_ s k) (hs : Sok s) (hk : k < (leads6 p at_ s (insAt p at_)).length) {x : Nat × KSt} (hxe : (leads6 p at_ s (insAt p at_)).getD k default = x) (hx : x.1 < p.code.length) :
    K6 p T0 (joinT T x) (again || decide (joinT T x ≠ T)) at_ s (k + 1) := by
  have hm : x ∈ leadsK p at_ s (insAt p at_) := by
    rw [← leads6_mem, ← hxe]
    simp [hk]
  have hsx := leadsK_ok p at_ hs (insAt p at_) x hm
  have hT := h.a6.tok
  have hup := joinT_above hT hsx hx
  have hph := joinT_phi hT hsx hx
  have hled := joinT_led hT hsx (x := x)
  have hTu := joinT_under hT h.a6.under h.here hs hm hx
  refine ⟨⟨joinT_tok hT hsx hx, hTu, ?_, ?_, fun e => ?_, fun e => ?_⟩, ?_, fun e => ?_, fun e j hj => ?_⟩
  · obtain ⟨t, h1, h2⟩ := h.a6.first
    obtain ⟨u, h3, h4⟩ := hup 0 t h1
    exact ⟨u, h3, h2.trans h4⟩
  · have := h.a6.less
    omega
  · simp only [Bool.or_eq_false_iff, decide_eq_false_iff_not, Decidable.not_not] at e
    rw [e.2]
    exact h.a6.still e.1
  · simp only [Bool.or_eq_true, decide_eq_true_eq] at e
    rcases e with e | e
    · have := h.a6.some_ e
      omega
    · have := h.a6.less
      have := hph.2 e
      omega
  · obtain ⟨t, h1, h2⟩ := h.here
    obtain ⟨u, h3, h4⟩ := hup at_ t h1
    exact ⟨u, h3, h2.trans h4⟩
  · simp only [Bool.or_eq_false_iff, decide_eq_false_iff_not, Decidable.not_not] at e
    rw [e.2]
    exact h.same e.1
  · simp only [Bool.or_eq_false_iff, decide_eq_false_iff_not, Decidable.not_not] at e
    by_cases hjk : j = k
    · subst hjk
      rw [hxe]
      exact hled
    · rw [e.2]
      exact h.led e.1 j (by omega)
theorem K6.end_ {p : LProg} {T0 T : Tab} {again : Bool} {at_ : Nat} {s : KSt} {k : Nat} (h : K6 p T0 T again at_ s k) (hk : (leads6 p at_ s (insAt p at_)).length ≤ k) : A6 p T0 T again (at_ + 1) :=
  ⟨h.a6.tok, h.a6.under, h.a6.first, h.a6.less, fun e => ⟨(h.a6.still e).1, fun j hj t ht x hx => by
    by_cases hja : j = at_
    · subst hja
      rw [h.same e] at ht
      obtain rfl := Option.some.inj ht
      rw [← leads6_mem] at hx
      obtain ⟨n, hn, rfl⟩ := List.getElem_of_mem hx
      have := h.led e n (by omega)
      simpa [hn] using this
    · exact (h.a6.still e).2 j (by omega) t ht x hx⟩, h.a6.some_⟩
/-- a round that turns nothing: the table is the least -/
theorem A6.least {p : LProg} {T0 T : Tab} {at_ : Nat} (h : A6 p T0 T false at_) (hat : p.code.length ≤ at_) : Least p T :=
  ⟨⟨h.tok, h.first, fun j s hs => (h.still rfl).2 j (by
    have := h.tok.len
    rcases Nat.lt_or_ge j at_ with h1 | h1
    · exact h1
    · exfalso
      unfold tg at hs
      rw [List.getD_eq_getElem?_getD, List.getElem?_eq_none (by omega)] at hs
      cases hs) s hs⟩, h.under⟩
end Go.Proofs.Ytccgnegdinakeaa
/- The words of all public regions: region by region, and in one row. No memory, no program in sight. -/
namespace Go.Proofs.Ytccgnegdinakeaa
open Go.RowKit
set_option linter.unusedSimpArgs false
set_option linter.unusedVariables false

end Go.Proofs.Ytccgnegdinakeaa
