/- Laid together from: TxM, TxW, TxV. -/
import Derived.Test.YtkkekbnhndfhjaaDoorTextBackB8
import Derived.Lib.Split
import Derived.Lib.SplitLaws
import Derived.Lib.IndexBytes
import Derived.Test.YtkkekbnhndfhjaaDoorTextBackB4

namespace Go.Proofs.YtkkekbnhndfhjaaDoor
set_option linter.unusedVariables false
set_option linter.unusedSimpArgs false
def splitT (c : UInt8) : List UInt8 → List (List UInt8)
  | [] => [[]]
  | b :: l => if b = c then [] :: splitT c l else (b :: (splitT c l).headD []) :: (splitT c l).tail
theorem split_ne (c : UInt8) (l : List UInt8) : splitT c l ≠ [] := by
  cases l with
  | nil => simp [splitT]
  | cons b l => unfold splitT; split <;> simp
theorem splitT_len (c : UInt8) : ∀ l : List UInt8, (splitT c l).length = l.count c + 1
  | [] => rfl
  | b :: l => by
    have ih := splitT_len c l
    have hn := split_ne c l
    unfold splitT
    by_cases h : b = c
    · subst h
      rw [if_pos rfl, List.length_cons, ih, List.count_cons_self]
    · rw [if_neg h, List.length_cons, List.length_tail, ih, List.count_cons_of_ne h]
      omega
theorem split_free {c : UInt8} : ∀ {a : List UInt8}, c ∉ a → splitT c a = [a]
  | [], _ => rfl
  | b :: a, h => by
    simp only [List.mem_cons, not_or] at h
    unfold splitT
    rw [if_neg (fun e => h.1 e.symm), split_free h.2]
    rfl
theorem splitT_at {c : UInt8} : ∀ {a : List UInt8} (b : List UInt8), c ∉ a → splitT c (a ++ c :: b) = a :: splitT c b
  | [], b, _ => by simp [splitT]
  | x :: a, b, h => by
    simp only [List.mem_cons, not_or] at h
    rw [List.cons_append]
    conv => lhs; unfold splitT
    rw [if_neg (fun e => h.1 e.symm), splitT_at b h.2]
    rfl
theorem first_of {c : UInt8} : ∀ {l : List UInt8}, c ∈ l → ∃ a b, l = a ++ c :: b ∧ c ∉ a
  | x :: l, h => by
    by_cases hx : x = c
    · subst hx
      exact ⟨[], l, rfl, by simp⟩
    · have : c ∈ l := by
        rcases List.mem_cons.1 h with e | e
        · exact absurd e.symm hx
        · exact e
      obtain ⟨a, b, rfl, hn⟩ := first_of this
      exact ⟨x :: a, b, rfl, by simp only [List.mem_cons, not_or]; exact ⟨fun e => hx e.symm, hn⟩⟩
theorem index_at {c : UInt8} (b : List UInt8) : ∀ {a : List UInt8}, c ∉ a → Lib.index (a ++ c :: b) [c] = a.length := by
  intro a h
  rw [Lib.index_one]
  induction a with
  | nil => simp [Lib.indexByte]
  | cons x a ih =>
    simp only [List.mem_cons, not_or] at h
    have e := ih h.2
    have hx : (x == c) = false := by simpa using fun e => h.1 e.symm
    rw [List.cons_append, Lib.indexByte, hx, e]
    simp only [Bool.false_eq_true, if_false, List.length_cons]
    rw [if_neg (by first | (simp; done) | (simp; omega))]
    omega
theorem splitK_eq (c : UInt8) : ∀ (n : Nat) (l : List UInt8), l.length ≤ n → Lib.splitK [c] 0 (l.count c) l = splitT c l
  | n, l, hn => by
    by_cases h : c ∈ l
    · obtain ⟨a, b, rfl, ha⟩ := first_of h
      obtain ⟨m, rfl⟩ : ∃ m, n = m + 1 := ⟨n - 1, by simp at hn; omega⟩
      have ih := splitK_eq c m b (by simp at hn; omega)
      have hc : (a ++ c :: b).count c = b.count c + 1 := by
        rw [List.count_append, List.count_eq_zero.2 ha, List.count_cons_self]
        omega
      rw [hc, splitT_at b ha, Lib.splitK, index_at b ha]
      rw [if_neg (by first | (simp; done) | (simp; omega))]
      simp only [Nat.add_zero, Int.toNat_natCast, List.length_cons, List.length_nil, Nat.zero_add]
      rw [List.take_left', show a ++ c :: b = (a ++ [c]) ++ b by simp, List.drop_left' (by simp), ih]
      rfl
    · rw [List.count_eq_zero.2 h, split_free h]
      rfl
theorem split_glue {c : UInt8} : ∀ (ws : List (List UInt8)) (w : List UInt8), c ∉ w → (∀ x ∈ ws, c ∉ x) → splitT c (w ++ ws.flatMap (c :: ·)) = w :: ws
  | [], w, hw, _ => by simp [split_free hw]
  | x :: ws, w, hw, h => by
    rw [List.flatMap_cons, List.cons_append, splitT_at _ hw, split_glue ws x (h x (by simp)) (fun y hy => h y (List.mem_cons_of_mem _ hy))]
theorem split_lines {c : UInt8} : ∀ (L : List (List UInt8)), (∀ x ∈ L, c ∉ x) → splitT c (L.flatMap (· ++ [c])) = L ++ [[]]
  | [], _ => rfl
  | x :: L, h => by
    rw [List.flatMap_cons, List.append_assoc]
    rw [show [c] ++ L.flatMap (· ++ [c]) = c :: L.flatMap (· ++ [c]) from rfl, splitT_at _ (h x (by simp)), split_lines L (fun y hy => h y (List.mem_cons_of_mem _ hy))]
    rfl
def allO : List (Int × Int) := [(1, 0), (2, 0), (3, 0), (4, 0), (5, 0), (6, 0), (7, 0), (8, 1), (8, 2), (8, 3), (8, 4), (9, 0), (10, 0), (11, 0), (12, 0), (21, 0), (22, 0), (23, 0), (24, 0), (25, 0), (26, 0), (27, 0), (28, 0), (29, 0), (30, 0)]
def opT (w : List UInt8) : Option (Int × Int) := allO.find? fun x => wordT x.1 x.2 = w
theorem op_mem {w : List UInt8} {o c : Int} (h : opT w = some (o, c)) : (o, c) ∈ allO ∧ wordT o c = w := by
  unfold opT at h
  exact ⟨List.mem_of_find?_eq_some h, by simpa using List.find?_some h⟩
theorem op_back : ∀ x ∈ allO, opT (wordT x.1 x.2) = some x := by decide +kernel
def setT (i : LIns) (f : UInt8) (n : Int) : LIns := if f = 65 then { i with a := n } else if f = 66 then { i with b := n } else if f = 67 ∨ f = 68 then { i with c := n } else { i with n := n }
def argT (f : UInt8) (w : List UInt8) : Option Int :=
  if f = 78 then numT w 19 else match w with
  | [] => none
  | b :: r => if b = (if f = 68 then 103 else 114) then numT r 18 else none
def readA : List UInt8 → List (List UInt8) → LIns → Option LIns
  | f :: fs, w :: ws, i => (argT f w).bind fun n => readA fs ws (setT i f n)
  | _, _, i => some i
def readT (ws : List (List UInt8)) : Option LIns :=
  match opT (ws.getD 0 []) with
  | none => none
  | some x => if ws.length = (followT x.1).length + 1 then readA (followT x.1) (ws.drop 1) ⟨x.1, 0, 0, x.2, 0⟩ else none
def regionW : List UInt8 := [114, 101, 103, 105, 111, 110]
def publicW : List UInt8 := [112, 117, 98, 108, 105, 99]
def secretW : List UInt8 := [115, 101, 99, 114, 101, 116]
def lineP (p : LProg) (l : List UInt8) : Option LProg :=
  if (splitT 32 l).getD 0 [] = regionW then
    if (splitT 32 l).length ≠ 3 ∨ 0 < p.code.length ∨ ((splitT 32 l).getD 2 [] ≠ publicW ∧ (splitT 32 l).getD 2 [] ≠ secretW) then none
    else (numT ((splitT 32 l).getD 1 []) 18).map fun n => ⟨p.regs ++ [⟨n, decide ((splitT 32 l).getD 2 [] = secretW)⟩], p.code⟩
  else (readT (splitT 32 l)).map fun i => ⟨p.regs, p.code ++ [i]⟩
def parseGo : List (List UInt8) → Nat → LProg → LProg × Int × Int
  | [], k, p => (⟨[], []⟩, 2, k)
  | l :: ls, k, p =>
    if ls = [] then if l = [] ∧ hardOk p = true then (p, 0, 0) else (⟨[], []⟩, 2, k)
    else match lineP p l with
    | none => (⟨[], []⟩, 2, k)
    | some q => parseGo ls (k + 1) q
def parseT (s : List UInt8) : LProg × Int × Int := parseGo (splitT 10 s) 0 ⟨[], []⟩
theorem trim_len (v : Int) (k : Nat) (h : v.natAbs < 10 ^ (k + 1)) : (Lib.trimPrefix (Lib.itoa v) [45]).length ≤ k + 1 := by
  have := dec_len k v.natAbs h
  rw [trim_minus]
  unfold Lib.itoa
  by_cases hv : v < 0
  · rw [if_pos hv]
    simpa using this
  · rw [if_neg hv, show v.toNat = v.natAbs by omega]
    split
    · rw [List.length_drop]; omega
    · exact this
theorem num_back (v : Int) (most : Nat) (h : (R64 v ∧ most = 19) ∨ (0 ≤ v ∧ v < 100 ∧ most = 18)) : numT (Lib.itoa v) most = some v := by
  rw [num_some]
  rcases h with ⟨h, rfl⟩ | ⟨h0, h1, rfl⟩
  · refine ⟨h, rfl, ?_⟩
    obtain ⟨h0, h1⟩ := h
    exact trim_len v 18 (by omega)
  · refine ⟨⟨by omega, by omega⟩, rfl, ?_⟩
    have := trim_len v 1 (by omega)
    omega
def valF (i : LIns) (f : UInt8) : Int := if f = 65 then i.a else if f = 66 then i.b else if f = 67 ∨ f = 68 then i.c else i.n
def goodF (i : LIns) (f : UInt8) : Prop := (f = 78 ∧ R64 i.n) ∨ ((f = 65 ∨ f = 66 ∨ f = 67 ∨ f = 68) ∧ 0 ≤ valF i f ∧ valF i f < 100)
theorem arg_back {i : LIns} {f : UInt8} (h : goodF i f) : argT f (partT i f).tail = some (valF i f) := by
  rcases h with ⟨rfl, h⟩ | ⟨hf, h0, h1⟩
  · show (if (78 : UInt8) = 78 then numT (Lib.itoa i.n) 19 else _) = some i.n
    rw [if_pos rfl, num_back _ _ (.inl ⟨h, rfl⟩)]
  · rcases hf with rfl | rfl | rfl | rfl
    · show numT (Lib.itoa i.a) 18 = some i.a
      exact num_back _ _ (.inr ⟨h0, h1, rfl⟩)
    · show numT (Lib.itoa i.b) 18 = some i.b
      exact num_back _ _ (.inr ⟨h0, h1, rfl⟩)
    · show numT (Lib.itoa i.c) 18 = some i.c
      exact num_back _ _ (.inr ⟨h0, h1, rfl⟩)
    · show numT (Lib.itoa i.c) 18 = some i.c
      exact num_back _ _ (.inr ⟨h0, h1, rfl⟩)
theorem readA_back (i : LIns) : ∀ (fs : List UInt8) (j : LIns), (∀ f ∈ fs, goodF i f) → readA fs (fs.map fun f => (partT i f).tail) j = some (fs.foldl (fun j f => setT j f (valF i f)) j)
  | [], j, _ => rfl
  | f :: fs, j, h => by
    rw [List.map_cons, readA, arg_back (h f (by simp)), Option.bind_some, readA_back i fs _ (fun g hg => h g (List.mem_cons_of_mem _ hg))]
    rfl
theorem insT_op {p : LProg} {R : Int} {i : LIns} (h : insOk p R i = true) : ((1 ≤ i.op ∧ i.op ≤ 12) ∨ (21 ≤ i.op ∧ i.op ≤ 30)) ∧ (i.op = 8 → 1 ≤ i.c ∧ i.c ≤ 4) := by
  unfold insOk at h
  by_cases h12 : 1 ≤ i.op ∧ i.op ≤ 12
  · refine ⟨.inl h12, fun h8 => ?_⟩
    rw [h8] at h
    simp [okIn] at h
    omega
  · refine ⟨.inr ?_, fun h8 => by omega⟩
    simp only at h
    rw [if_neg (by omega), if_neg (by omega), if_neg (by omega), if_neg (by omega), if_neg (by omega), if_neg (by omega), if_neg (by omega), if_neg (by omega), if_neg (by omega), if_neg (by omega)] at h
    simp [okIn] at h
    omega
theorem op_word {op c : Int} (ho : (1 ≤ op ∧ op ≤ 12) ∨ (21 ≤ op ∧ op ≤ 30)) (hc : op = 8 → 1 ≤ c ∧ c ≤ 4) : opT (wordT op c) = some (op, if op = 8 then c else 0) := by
  by_cases h8 : op = 8
  · obtain ⟨c0, c1⟩ := hc h8
    subst h8
    have : c = 1 ∨ c = 2 ∨ c = 3 ∨ c = 4 := by omega
    rcases this with rfl | rfl | rfl | rfl
    · exact op_back (8, 1) (by decide)
    · exact op_back (8, 2) (by decide)
    · exact op_back (8, 3) (by decide)
    · exact op_back (8, 4) (by decide)
  · have hw : wordT op c = wordT op 0 := by unfold wordT; rw [if_neg h8, if_neg h8]
    rw [hw, if_neg h8]
    have : op = 1 ∨ op = 2 ∨ op = 3 ∨ op = 4 ∨ op = 5 ∨ op = 6 ∨ op = 7 ∨ op = 9 ∨ op = 10 ∨ op = 11 ∨ op = 12 ∨ op = 21 ∨ op = 22 ∨ op = 23 ∨ op = 24 ∨ op = 25 ∨ op = 26 ∨ op = 27 ∨ op = 28 ∨ op = 29 ∨ op = 30 := by omega
    have hm : (op, (0 : Int)) ∈ allO := by
      rcases this with rfl | rfl | rfl | rfl | rfl | rfl | rfl | rfl | rfl | rfl | rfl | rfl | rfl | rfl | rfl | rfl | rfl | rfl | rfl | rfl | rfl <;> decide
    exact op_back _ hm
set_option maxHeartbeats 2000000 in
theorem read_ins {p : LProg} {i : LIns} (h : insOk p 10 i = true) (hl : p.regs.length ≤ 6) (hn : R64 i.n) : readT (wordT i.op i.c :: (followT i.op).map fun f => (partT i f).tail) = some i := by
  obtain ⟨ho, hc⟩ := insT_op h
  have hw := op_word ho hc
  have hgo : (∀ f ∈ followT i.op, goodF i f) ∧ (followT i.op).foldl (fun j f => setT j f (valF i f)) ⟨i.op, 0, 0, if i.op = 8 then i.c else 0, 0⟩ = i := by
    obtain ⟨op, a, b, c, n⟩ := i
    simp only at ho hc hn ⊢
    have : op = 1 ∨ op = 2 ∨ op = 3 ∨ op = 4 ∨ op = 5 ∨ op = 6 ∨ op = 7 ∨ op = 8 ∨ op = 9 ∨ op = 10 ∨ op = 11 ∨ op = 12 ∨ op = 21 ∨ op = 22 ∨ op = 23 ∨ op = 24 ∨ op = 25 ∨ op = 26 ∨ op = 27 ∨ op = 28 ∨ op = 29 ∨ op = 30 := by omega
    clear ho hc hw
    rcases this with rfl | rfl | rfl | rfl | rfl | rfl | rfl | rfl | rfl | rfl | rfl | rfl | rfl | rfl | rfl | rfl | rfl | rfl | rfl | rfl | rfl | rfl
    all_goals
      simp [insOk, okIn] at h
      simp [followT, setT, valF, goodF, hn]
      try omega
  unfold readT
  simp only [List.getD_cons_zero, hw, List.length_cons, List.length_map, if_true, List.drop_succ_cons, List.drop_zero]
  rw [readA_back i _ _ hgo.1, hgo.2]
theorem no_in {c : UInt8} {l : List UInt8} (hc : isD c = false) (h : l.all isD = true) : c ∉ l := fun hm => by
  rw [List.all_eq_true] at h
  have := h c hm
  rw [hc] at this
  cases this
theorem itoa_no {c : UInt8} (hc : isD c = false) (h45 : c ≠ 45) (v : Int) : c ∉ Lib.itoa v := by
  unfold Lib.itoa
  split
  · simp only [List.mem_cons, not_or]
    exact ⟨h45, no_in hc (dec_facts _ _ (Nat.le_refl _)).1⟩
  · exact no_in hc (dec_facts _ _ (Nat.le_refl _)).1
theorem part_tail {c : UInt8} (hc : isD c = false) (h45 : c ≠ 45) (hr : c ≠ 114) (hg : c ≠ 103) (i : LIns) (f : UInt8) : partT i f = 32 :: (partT i f).tail ∧ c ∉ (partT i f).tail := by
  have h1 := itoa_no hc h45
  unfold partT
  repeat' split
  all_goals
    refine ⟨rfl, ?_⟩
    simp only [List.tail_cons, List.mem_cons, not_or]
    first | exact ⟨hr, h1 _⟩ | exact ⟨hg, h1 _⟩ | exact h1 _
theorem word_no : ∀ x ∈ allO, (32 : UInt8) ∉ wordT x.1 x.2 ∧ (10 : UInt8) ∉ wordT x.1 x.2 ∧ wordT x.1 x.2 ≠ regionW := by decide +kernel
theorem word_in {op c : Int} (ho : (1 ≤ op ∧ op ≤ 12) ∨ (21 ≤ op ∧ op ≤ 30)) (hc : op = 8 → 1 ≤ c ∧ c ≤ 4) : (32 : UInt8) ∉ wordT op c ∧ (10 : UInt8) ∉ wordT op c ∧ wordT op c ≠ regionW := by
  obtain ⟨hm, hw⟩ := op_mem (op_word ho hc)
  have := word_no _ hm
  rw [hw] at this
  exact this
theorem line_words {p : LProg} {i : LIns} (h : insOk p 10 i = true) : splitT 32 (lineT i) = wordT i.op i.c :: (followT i.op).map (fun f => (partT i f).tail) ∧ (10 : UInt8) ∉ lineT i := by
  obtain ⟨ho, hc⟩ := insT_op h
  obtain ⟨w1, w2, -⟩ := word_in ho hc
  have e : (followT i.op).flatMap (partT i) = ((followT i.op).map fun f => (partT i f).tail).flatMap (32 :: ·) := by
    rw [List.flatMap_map]
    congr 1
    funext f
    exact (part_tail (c := 32) (by decide) (by decide) (by decide) (by decide) i f).1
  constructor
  · unfold lineT
    rw [e]
    apply split_glue _ _ w1
    intro x hx
    rw [List.mem_map] at hx
    obtain ⟨f, -, rfl⟩ := hx
    exact (part_tail (c := 32) (by decide) (by decide) (by decide) (by decide) i f).2
  · unfold lineT
    rw [List.mem_append, not_or]
    refine ⟨w2, fun hm => ?_⟩
    rw [List.mem_flatMap] at hm
    obtain ⟨f, -, hf⟩ := hm
    obtain ⟨k1, k2⟩ := part_tail (c := 10) (by decide) (by decide) (by decide) (by decide) i f
    rw [k1] at hf
    rcases List.mem_cons.1 hf with e | e
    · exact absurd e (by decide)
    · exact k2 e
theorem line_ins {p q : LProg} {i : LIns} (h : insOk p 10 i = true) (hl : p.regs.length ≤ 6) (hn : R64 i.n) : lineP q (lineT i) = some ⟨q.regs, q.code ++ [i]⟩ := by
  obtain ⟨ho, hc⟩ := insT_op h
  unfold lineP
  rw [(line_words h).1, read_ins h hl hn, List.getD_cons_zero, if_neg (word_in ho hc).2.2]
  rfl
theorem reg_words (r : LReg) : splitT 32 (regT r) = [regionW, Lib.itoa r.log, if r.secret then secretW else publicW] ∧ (10 : UInt8) ∉ regT r := by
  have h32 := itoa_no (c := 32) (by decide) (by decide) r.log
  have h10 := itoa_no (c := 10) (by decide) (by decide) r.log
  obtain ⟨log, sec⟩ := r
  simp only at h32 h10 ⊢
  constructor
  · have e : regT ⟨log, sec⟩ = regionW ++ [Lib.itoa log, if sec then secretW else publicW].flatMap (32 :: ·) := by
      cases sec <;> simp [regT, regionW, secretW, publicW]
    rw [e]
    apply split_glue
    · decide
    · intro x hx
      simp only [List.mem_cons, List.mem_nil_iff, or_false] at hx
      rcases hx with rfl | rfl
      · exact h32
      · cases sec <;> decide
  · cases sec
    all_goals
      unfold regT
      simp [h10]
theorem line_reg {q : LProg} {r : LReg} (h0 : 0 ≤ r.log) (h6 : r.log ≤ 6) (hq : q.code = []) : lineP q (regT r) = some ⟨q.regs ++ [r], q.code⟩ := by
  unfold lineP
  rw [(reg_words r).1]
  obtain ⟨log, sec⟩ := r
  simp only [List.getD_cons_zero, List.getD_cons_succ, if_true, List.length_cons, List.length_nil, hq]
  rw [num_back log 18 (.inr ⟨h0, by simp only at h6; omega, rfl⟩)]
  cases sec
  · rw [if_neg (by simp)]
    rfl
  · rw [if_neg (by simp)]
    rfl
theorem go_code {p : LProg} (hh : hardOk p = true) (hl : p.regs.length ≤ 6) (hn : ∀ i ∈ p.code, insOk p 10 i = true ∧ R64 i.n) : ∀ (l : List LIns) (k : Nat) (q : LProg), (∀ i ∈ l, i ∈ p.code) → (⟨q.regs, q.code ++ l⟩ : LProg) = p → parseGo (l.map lineT ++ [[]]) k q = (p, 0, 0)
  | [], k, q, _, he => by
    have : q = p := by rw [← he]; simp
    subst this
    simp [parseGo, hh]
  | i :: l, k, q, hm, he => by
    obtain ⟨h1, h2⟩ := hn i (hm i (by simp))
    rw [List.map_cons, List.cons_append, parseGo, if_neg (by simp), line_ins h1 hl h2]
    exact go_code hh hl hn l (k + 1) ⟨q.regs, q.code ++ [i]⟩ (fun j hj => hm j (List.mem_cons_of_mem _ hj)) (by rw [← he]; simp)
theorem go_regs {p : LProg} (hh : hardOk p = true) (hl : p.regs.length ≤ 6) (hr : ∀ r ∈ p.regs, 0 ≤ r.log ∧ r.log ≤ 6) (hn : ∀ i ∈ p.code, insOk p 10 i = true ∧ R64 i.n) : ∀ (l : List LReg) (k : Nat) (q : LProg), (∀ r ∈ l, r ∈ p.regs) → q.code = [] → q.regs ++ l = p.regs → parseGo (l.map regT ++ (p.code.map lineT ++ [[]])) k q = (p, 0, 0)
  | [], k, q, _, hq, he => go_code hh hl hn p.code k q (fun _ h => h) (by rw [hq]; simp at he; simp [he])
  | r :: l, k, q, hm, hq, he => by
    obtain ⟨h1, h2⟩ := hr r (hm r (by simp))
    rw [List.map_cons, List.cons_append, parseGo, if_neg (by simp), line_reg h1 h2 hq]
    exact go_regs hh hl hr hn l (k + 1) ⟨q.regs ++ [r], q.code⟩ (fun j hj => hm j (List.mem_cons_of_mem _ hj)) hq (by rw [← he]; simp)
theorem text_parse {p : LProg} (hh : hardOk p = true) (hn : ∀ i ∈ p.code, R64 i.n) : parseT (textT p) = (p, 0, 0) := by
  have h := hh
  unfold hardOk progOk regsOk at h
  simp only [Bool.and_eq_true, decide_eq_true_eq, List.all_eq_true] at h
  obtain ⟨⟨⟨⟨h1, h2⟩, h3⟩, h4⟩, h5⟩ := h
  have hr : ∀ r ∈ p.regs, 0 ≤ r.log ∧ r.log ≤ 6 := fun r hr => by
    have := h1 r hr
    unfold regOk at this
    simpa using this
  have e : textT p = (p.regs.map regT ++ p.code.map lineT).flatMap (· ++ [10]) := by
    unfold textT
    rw [List.flatMap_append, List.flatMap_map, List.flatMap_map]
  unfold parseT
  rw [e, split_lines _ (by
    intro x hx
    rw [List.mem_append, List.mem_map, List.mem_map] at hx
    rcases hx with ⟨r, -, rfl⟩ | ⟨i, hi, rfl⟩
    · exact (reg_words r).2
    · exact (line_words (h5 i hi)).2), List.append_assoc]
  exact go_regs hh h2 hr (fun i hi => ⟨h5 i hi, hn i hi⟩) p.regs 0 ⟨[], []⟩ (fun _ h => h) rfl rfl
end Go.Proofs.YtkkekbnhndfhjaaDoor
