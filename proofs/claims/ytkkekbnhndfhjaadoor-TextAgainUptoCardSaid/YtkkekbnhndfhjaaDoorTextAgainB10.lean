/- Laid together from: TxM, TxW, TxV. -/
import Derived.Test.YtkkekbnhndfhjaaDoorTextAgainB8
import Derived.Lib.Split
import Derived.Lib.SplitLaws
import Derived.Lib.IndexBytes
import Derived.Test.YtkkekbnhndfhjaaDoorTextAgainB4

namespace Go.Proofs.YtkkekbnhndfhjaaDoor
set_option linter.unusedVariables false
set_option linter.unusedSimpArgs false
def splitT (c : UInt8) : List UInt8 → List (List UInt8)
  | [] => [[]]
  | b :: l => if b = c then [] :: splitT c l else (b :: (splitT c l).headD []) :: (splitT c l).tail
theorem split_ne (c : UInt8) (l : List UInt8) : splitT c l ≠ [] := by
  cases l with
  | nil => simp [splitT]
  | cons b l => unfold splitT; split <;> simp
theorem splitT_len (c : UInt8) : ∀ l : List UInt8, (splitT c l).length = l.count c + 1
  | [] => rfl
  | b :: l => by
    have ih := splitT_len c l
    have hn := split_ne c l
    unfold splitT
    by_cases h : b = c
    · subst h
      rw [if_pos rfl, List.length_cons, ih, List.count_cons_self]
    · rw [if_neg h, List.length_cons, List.length_tail, ih, List.count_cons_of_ne h]
      omega
theorem split_free {c : UInt8} : ∀ {a : List UInt8}, c ∉ a → splitT c a = [a]
  | [], _ => rfl
  | b :: a, h => by
    simp only [List.mem_cons, not_or] at h
    unfold splitT
    rw [if_neg (fun e => h.1 e.symm), split_free h.2]
    rfl
theorem splitT_at {c : UInt8} : ∀ {a : List UInt8} (b : List UInt8), c ∉ a → splitT c (a ++ c :: b) = a :: splitT c b
  | [], b, _ => by simp [splitT]
  | x :: a, b, h => by
    simp only [List.mem_cons, not_or] at h
    rw [List.cons_append]
    conv => lhs; unfold splitT
    rw [if_neg (fun e => h.1 e.symm), splitT_at b h.2]
    rfl
theorem first_of {c : UInt8} : ∀ {l : List UInt8}, c ∈ l → ∃ a b, l = a ++ c :: b ∧ c ∉ a
  | x :: l, h => by
    by_cases hx : x = c
    · subst hx
      exact ⟨[], l, rfl, by simp⟩
    · have : c ∈ l := by
        rcases List.mem_cons.1 h with e | e
        · exact absurd e.symm hx
        · exact e
      obtain ⟨a, b, rfl, hn⟩ := first_of this
      exact ⟨x :: a, b, rfl, by simp only [List.mem_cons, not_or]; exact ⟨fun e => hx e.symm, hn⟩⟩
theorem index_at {c : UInt8} (b : List UInt8) : ∀ {a : List UInt8}, c ∉ a → Lib.index (a ++ c :: b) [c] = a.length := by
  intro a h
  rw [Lib.index_one]
  induction a with
  | nil => simp [Lib.indexByte]
  | cons x a ih =>
    simp only [List.mem_cons, not_or] at h
    have e := ih h.2
    have hx : (x == c) = false := by simpa using fun e => h.1 e.symm
    rw [List.cons_append, Lib.indexByte, hx, e]
    simp only [Bool.false_eq_true, if_false, List.length_cons]
    rw [if_neg (by first | (simp; done) | (simp; omega))]
    omega
theorem splitK_eq (c : UInt8) : ∀ (n : Nat) (l : List UInt8), l.length ≤ n → Lib.splitK [c] 0 (l.count c) l = splitT c l
  | n, l, hn => by
    by_cases h : c ∈ l
    · obtain ⟨a, b, rfl, ha⟩ := first_of h
      obtain ⟨m, rfl⟩ : ∃ m, n = m + 1 := ⟨n - 1, by simp at hn; omega⟩
      have ih := splitK_eq c m b (by simp at hn; omega)
      have hc : (a ++ c :: b).count c = b.count c + 1 := by
        rw [List.count_append, List.count_eq_zero.2 ha, List.count_cons_self]
        omega
      rw [hc, splitT_at b ha, Lib.splitK, index_at b ha]
      rw [if_neg (by first | (simp; done) | (simp; omega))]
      simp only [Nat.add_zero, Int.toNat_natCast, List.length_cons, List.length_nil, Nat.zero_add]
      rw [List.take_left', show a ++ c :: b = (a ++ [c]) ++ b by simp, List.drop_left' (by simp), ih]
      rfl
    · rw [List.count_eq_zero.2 h, split_free h]
      rfl
def glue (c : UInt8) : List (List UInt8) → List UInt8
  | [] => []
  | w :: ws => w ++ ws.flatMap (c :: ·)
theorem glue_split (c : UInt8) : ∀ (n : Nat) (l : List UInt8), l.length ≤ n → glue c (splitT c l) = l
  | n, l, hn => by
    by_cases h : c ∈ l
    · obtain ⟨a, b, rfl, ha⟩ := first_of h
      obtain ⟨m, rfl⟩ : ∃ m, n = m + 1 := ⟨n - 1, by simp at hn; omega⟩
      have ih := glue_split c m b (by simp at hn; omega)
      rw [splitT_at b ha]
      have hn := split_ne c b
      generalize splitT c b = L at *
      cases L with
      | nil => exact absurd rfl hn
      | cons x r =>
        simp only [glue, List.flatMap_cons] at ih ⊢
        rw [← ih]
        simp
    · rw [split_free h]
      simp [glue]
def allO : List (Int × Int) := [(1, 0), (2, 0), (3, 0), (4, 0), (5, 0), (6, 0), (7, 0), (8, 1), (8, 2), (8, 3), (8, 4), (9, 0), (10, 0), (11, 0), (12, 0), (21, 0), (22, 0), (23, 0), (24, 0), (25, 0), (26, 0), (27, 0), (28, 0), (29, 0), (30, 0)]
def opT (w : List UInt8) : Option (Int × Int) := allO.find? fun x => wordT x.1 x.2 = w
theorem op_mem {w : List UInt8} {o c : Int} (h : opT w = some (o, c)) : (o, c) ∈ allO ∧ wordT o c = w := by
  unfold opT at h
  exact ⟨List.mem_of_find?_eq_some h, by simpa using List.find?_some h⟩
def setT (i : LIns) (f : UInt8) (n : Int) : LIns := if f = 65 then { i with a := n } else if f = 66 then { i with b := n } else if f = 67 ∨ f = 68 then { i with c := n } else { i with n := n }
def argT (f : UInt8) (w : List UInt8) : Option Int :=
  if f = 78 then numT w 19 else match w with
  | [] => none
  | b :: r => if b = (if f = 68 then 103 else 114) then numT r 18 else none
def readA : List UInt8 → List (List UInt8) → LIns → Option LIns
  | f :: fs, w :: ws, i => (argT f w).bind fun n => readA fs ws (setT i f n)
  | _, _, i => some i
def readT (ws : List (List UInt8)) : Option LIns :=
  match opT (ws.getD 0 []) with
  | none => none
  | some x => if ws.length = (followT x.1).length + 1 then readA (followT x.1) (ws.drop 1) ⟨x.1, 0, 0, x.2, 0⟩ else none
def regionW : List UInt8 := [114, 101, 103, 105, 111, 110]
def publicW : List UInt8 := [112, 117, 98, 108, 105, 99]
def secretW : List UInt8 := [115, 101, 99, 114, 101, 116]
def lineP (p : LProg) (l : List UInt8) : Option LProg :=
  if (splitT 32 l).getD 0 [] = regionW then
    if (splitT 32 l).length ≠ 3 ∨ 0 < p.code.length ∨ ((splitT 32 l).getD 2 [] ≠ publicW ∧ (splitT 32 l).getD 2 [] ≠ secretW) then none
    else (numT ((splitT 32 l).getD 1 []) 18).map fun n => ⟨p.regs ++ [⟨n, decide ((splitT 32 l).getD 2 [] = secretW)⟩], p.code⟩
  else (readT (splitT 32 l)).map fun i => ⟨p.regs, p.code ++ [i]⟩
def parseGo : List (List UInt8) → Nat → LProg → LProg × Int × Int
  | [], k, p => (⟨[], []⟩, 2, k)
  | l :: ls, k, p =>
    if ls = [] then if l = [] ∧ hardOk p = true then (p, 0, 0) else (⟨[], []⟩, 2, k)
    else match lineP p l with
    | none => (⟨[], []⟩, 2, k)
    | some q => parseGo ls (k + 1) q
def parseT (s : List UInt8) : LProg × Int × Int := parseGo (splitT 10 s) 0 ⟨[], []⟩
theorem arg_some {f : UInt8} {w : List UInt8} {n : Int} (h : argT f w = some n) : R64 n ∧ w = (if f = 78 then Lib.itoa n else (if f = 68 then 103 else 114) :: Lib.itoa n) := by
  unfold argT at h
  by_cases hf : f = 78
  · rw [if_pos hf] at h
    rw [if_pos hf]
    obtain ⟨h0, h1, -⟩ := num_some.1 h
    exact ⟨h0, h1.symm⟩
  · rw [if_neg hf] at h
    rw [if_neg hf]
    cases w with
    | nil => cases h
    | cons b r =>
      simp only at h
      by_cases hb : b = (if f = 68 then 103 else 114)
      · rw [if_pos hb] at h
        obtain ⟨h0, h1, -⟩ := num_some.1 h
        exact ⟨h0, by rw [hb, h1]⟩
      · rw [if_neg hb] at h
        cases h
theorem follow_cases (o c : Int) (h : (o, c) ∈ allO) : followT o = [65, 66, 67] ∨ followT o = [65, 78] ∨ followT o = [65, 66] ∨ followT o = [65, 66, 78] ∨ followT o = [65, 68, 66, 78] ∨ followT o = [65, 68, 78] ∨ followT o = [78] ∨ followT o = [65] ∨ followT o = [] := by
  have : ∀ x ∈ allO, followT x.1 = [65, 66, 67] ∨ followT x.1 = [65, 78] ∨ followT x.1 = [65, 66] ∨ followT x.1 = [65, 66, 78] ∨ followT x.1 = [65, 68, 66, 78] ∨ followT x.1 = [65, 68, 78] ∨ followT x.1 = [78] ∨ followT x.1 = [65] ∨ followT x.1 = [] := by decide +kernel
  exact this _ h
theorem word_cc (o c c' : Int) (h : (o, c) ∈ allO) (h' : 67 ∈ followT o ∨ 68 ∈ followT o) : wordT o c' = wordT o c := by
  have : ∀ x ∈ allO, 67 ∈ followT x.1 ∨ 68 ∈ followT x.1 → x.1 ≠ 8 := by decide +kernel
  have := this _ h h'
  unfold wordT
  rw [if_neg this, if_neg this]
theorem readA_op : ∀ (fs : List UInt8) (ws : List (List UInt8)) (i j : LIns), readA fs ws i = some j → j.op = i.op
  | [], ws, i, j, h => by simp [readA] at h; rw [h]
  | f :: fs, [], i, j, h => by simp [readA] at h; rw [h]
  | f :: fs, w :: ws, i, j, h => by
    rw [readA, Option.bind_eq_some_iff] at h
    obtain ⟨n, -, h⟩ := h
    have := readA_op fs ws _ j h
    rw [this]
    unfold setT
    repeat' split
    all_goals rfl
theorem read_line {ws : List (List UInt8)} {i : LIns} (h : readT ws = some i) : glue 32 ws = lineT i := by
  unfold readT at h
  split at h
  · cases h
  rename_i x hx
  obtain ⟨o, c⟩ := x
  obtain ⟨hm, hw⟩ := op_mem hx
  simp only at h
  split at h
  · rename_i hl
    have hop : i.op = o := readA_op _ _ _ _ h
    cases ws with
    | nil => simp at hl
    | cons w ws =>
      simp only [List.drop_succ_cons, List.drop_zero, List.length_cons, Nat.add_right_cancel_iff, List.getD_cons_zero] at h hl hw
      subst hw
      have hwc := word_cc o c i.c hm
      unfold lineT glue
      rw [hop]
      have key : wordT o i.c = wordT o c ∧ ws.flatMap (32 :: ·) = (followT o).flatMap (partT i) := by
        rcases follow_cases o c hm with e | e | e | e | e | e | e | e | e
        all_goals
          rw [e] at h hl hwc ⊢
          simp only [List.length_cons, List.length_nil] at hl
        · obtain ⟨w1, w2, w3, rfl⟩ : ∃ a b c, ws = [a, b, c] := by
            match ws, hl with
            | [a, b, c], _ => exact ⟨a, b, c, rfl⟩
          simp only [readA, Option.bind_eq_some_iff] at h
          obtain ⟨n1, a1, n2, a2, n3, a3, h⟩ := h
          obtain rfl := Option.some.inj h
          obtain ⟨-, b1⟩ := arg_some a1
          obtain ⟨-, b2⟩ := arg_some a2
          obtain ⟨-, b3⟩ := arg_some a3
          refine ⟨hwc (by decide), ?_⟩
          rw [b1, b2, b3]
          simp [setT, partT]
        · obtain ⟨w1, w2, rfl⟩ : ∃ a b, ws = [a, b] := by
            match ws, hl with
            | [a, b], _ => exact ⟨a, b, rfl⟩
          simp only [readA, Option.bind_eq_some_iff] at h
          obtain ⟨n1, a1, n2, a2, h⟩ := h
          obtain rfl := Option.some.inj h
          obtain ⟨-, b1⟩ := arg_some a1
          obtain ⟨-, b2⟩ := arg_some a2
          refine ⟨rfl, ?_⟩
          rw [b1, b2]
          simp [setT, partT]
        · obtain ⟨w1, w2, rfl⟩ : ∃ a b, ws = [a, b] := by
            match ws, hl with
            | [a, b], _ => exact ⟨a, b, rfl⟩
          simp only [readA, Option.bind_eq_some_iff] at h
          obtain ⟨n1, a1, n2, a2, h⟩ := h
          obtain rfl := Option.some.inj h
          obtain ⟨-, b1⟩ := arg_some a1
          obtain ⟨-, b2⟩ := arg_some a2
          refine ⟨rfl, ?_⟩
          rw [b1, b2]
          simp [setT, partT]
        · obtain ⟨w1, w2, w3, rfl⟩ : ∃ a b c, ws = [a, b, c] := by
            match ws, hl with
            | [a, b, c], _ => exact ⟨a, b, c, rfl⟩
          simp only [readA, Option.bind_eq_some_iff] at h
          obtain ⟨n1, a1, n2, a2, n3, a3, h⟩ := h
          obtain rfl := Option.some.inj h
          obtain ⟨-, b1⟩ := arg_some a1
          obtain ⟨-, b2⟩ := arg_some a2
          obtain ⟨-, b3⟩ := arg_some a3
          refine ⟨rfl, ?_⟩
          rw [b1, b2, b3]
          simp [setT, partT]
        · obtain ⟨w1, w2, w3, w4, rfl⟩ : ∃ a b c d, ws = [a, b, c, d] := by
            match ws, hl with
            | [a, b, c, d], _ => exact ⟨a, b, c, d, rfl⟩
          simp only [readA, Option.bind_eq_some_iff] at h
          obtain ⟨n1, a1, n2, a2, n3, a3, n4, a4, h⟩ := h
          obtain rfl := Option.some.inj h
          obtain ⟨-, b1⟩ := arg_some a1
          obtain ⟨-, b2⟩ := arg_some a2
          obtain ⟨-, b3⟩ := arg_some a3
          obtain ⟨-, b4⟩ := arg_some a4
          refine ⟨hwc (by decide), ?_⟩
          rw [b1, b2, b3, b4]
          simp [setT, partT]
        · obtain ⟨w1, w2, w3, rfl⟩ : ∃ a b c, ws = [a, b, c] := by
            match ws, hl with
            | [a, b, c], _ => exact ⟨a, b, c, rfl⟩
          simp only [readA, Option.bind_eq_some_iff] at h
          obtain ⟨n1, a1, n2, a2, n3, a3, h⟩ := h
          obtain rfl := Option.some.inj h
          obtain ⟨-, b1⟩ := arg_some a1
          obtain ⟨-, b2⟩ := arg_some a2
          obtain ⟨-, b3⟩ := arg_some a3
          refine ⟨hwc (by decide), ?_⟩
          rw [b1, b2, b3]
          simp [setT, partT]
        · obtain ⟨w1, rfl⟩ : ∃ a, ws = [a] := by
            match ws, hl with
            | [a], _ => exact ⟨a, rfl⟩
          simp only [readA, Option.bind_eq_some_iff] at h
          obtain ⟨n1, a1, h⟩ := h
          obtain rfl := Option.some.inj h
          obtain ⟨-, b1⟩ := arg_some a1
          refine ⟨rfl, ?_⟩
          rw [b1]
          simp [setT, partT]
        · obtain ⟨w1, rfl⟩ : ∃ a, ws = [a] := by
            match ws, hl with
            | [a], _ => exact ⟨a, rfl⟩
          simp only [readA, Option.bind_eq_some_iff] at h
          obtain ⟨n1, a1, h⟩ := h
          obtain rfl := Option.some.inj h
          obtain ⟨-, b1⟩ := arg_some a1
          refine ⟨rfl, ?_⟩
          rw [b1]
          simp [setT, partT]
        · obtain rfl : ws = [] := List.length_eq_zero_iff.1 hl
          simp only [readA] at h
          obtain rfl := Option.some.inj h
          exact ⟨rfl, rfl⟩
      show wordT o c ++ ws.flatMap (32 :: ·) = _
      rw [key.1, key.2]
  · cases h
theorem line_text {p q : LProg} {l : List UInt8} (h : lineP p l = some q) : textT q = textT p ++ l ++ [10] := by
  unfold lineP at h
  have hg := glue_split 32 _ l (Nat.le_refl _)
  generalize splitT 32 l = ws at *
  split at h
  · rename_i h0
    split at h
    · cases h
    rename_i hc
    rw [not_or, not_or] at hc
    rw [Option.map_eq_some_iff] at h
    obtain ⟨n, hn, rfl⟩ := h
    obtain ⟨w0, w1, w2, rfl⟩ : ∃ a b c, ws = [a, b, c] := by
      match ws, (Classical.not_not.1 hc.1) with
      | [a, b, c], _ => exact ⟨a, b, c, rfl⟩
    have hcode : p.code = [] := List.length_eq_zero_iff.1 (by omega)
    obtain ⟨-, he, -⟩ := num_some.1 hn
    simp only [List.getD_cons_zero, List.getD_cons_succ] at *
    subst h0 he
    rw [← hg]
    unfold textT
    simp only [hcode, List.flatMap_append, List.flatMap_cons, List.flatMap_nil, List.append_nil, List.append_assoc, glue]
    have h2 : w2 = publicW ∨ w2 = secretW := by
      by_cases e : w2 = publicW
      · exact .inl e
      · right
        by_cases e' : w2 = secretW
        · exact e'
        · exact absurd ⟨e, e'⟩ hc.2.2
    rcases h2 with rfl | rfl
    · simp [regT, regionW, publicW, secretW]
    · simp [regT, regionW, publicW, secretW]
  · rw [Option.map_eq_some_iff] at h
    obtain ⟨i, hi, rfl⟩ := h
    have := read_line hi
    rw [hg] at this
    subst this
    unfold textT
    simp
theorem go_text : ∀ (ls : List (List UInt8)) (k : Nat) (p q : LProg) (a : Int), parseGo ls k p = (q, 0, a) → textT q = textT p ++ glue 10 ls ∧ hardOk q = true
  | [], k, p, q, a, h => by simp [parseGo] at h
  | l :: ls, k, p, q, a, h => by
    unfold parseGo at h
    split at h
    · rename_i hl
      subst hl
      split at h
      · rename_i hc
        obtain rfl := (Prod.mk.inj h).1
        rw [hc.1]
        exact ⟨by simp [glue], hc.2⟩
      · simp at h
    · rename_i hl
      split at h
      · simp at h
      · rename_i r hr
        obtain ⟨h1, h2⟩ := go_text ls (k + 1) r q a h
        refine ⟨?_, h2⟩
        rw [h1, line_text hr]
        cases ls with
        | nil => exact absurd rfl hl
        | cons x ls => simp [glue]
theorem parse_text {s : List UInt8} {q : LProg} {a : Int} (h : parseT s = (q, 0, a)) : textT q = s ∧ hardOk q = true := by
  obtain ⟨h1, h2⟩ := go_text _ _ _ _ _ h
  rw [glue_split 10 _ s (Nat.le_refl _)] at h1
  exact ⟨by rw [h1]; simp [textT], h2⟩
end Go.Proofs.YtkkekbnhndfhjaaDoor
