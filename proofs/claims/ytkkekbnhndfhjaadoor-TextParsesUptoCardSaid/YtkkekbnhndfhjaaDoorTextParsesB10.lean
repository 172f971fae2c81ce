/- Laid together from: TxM, TxW, TxV. -/
import Derived.Test.YtkkekbnhndfhjaaDoorTextParsesB8
import Derived.Lib.Split
import Derived.Lib.SplitLaws
import Derived.Lib.IndexBytes
import Derived.Test.YtkkekbnhndfhjaaDoorTextParsesB4

namespace Go.Proofs.YtkkekbnhndfhjaaDoor
set_option linter.unusedVariables false
set_option linter.unusedSimpArgs false
def splitT (c : UInt8) : List UInt8 → List (List UInt8)
  | [] => [[]]
  | b :: l => if b = c then [] :: splitT c l else (b :: (splitT c l).headD []) :: (splitT c l).tail
theorem split_ne (c : UInt8) (l : List UInt8) : splitT c l ≠ [] := by
  cases l with
  | nil => simp [splitT]
  | cons b l => unfold splitT; split <;> simp
theorem splitT_len (c : UInt8) : ∀ l : List UInt8, (splitT c l).length = l.count c + 1
  | [] => rfl
  | b :: l => by
    have ih := splitT_len c l
    have hn := split_ne c l
    unfold splitT
    by_cases h : b = c
    · subst h
      rw [if_pos rfl, List.length_cons, ih, List.count_cons_self]
    · rw [if_neg h, List.length_cons, List.length_tail, ih, List.count_cons_of_ne h]
      omega
theorem split_free {c : UInt8} : ∀ {a : List UInt8}, c ∉ a → splitT c a = [a]
  | [], _ => rfl
  | b :: a, h => by
    simp only [List.mem_cons, not_or] at h
    unfold splitT
    rw [if_neg (fun e => h.1 e.symm), split_free h.2]
    rfl
theorem splitT_at {c : UInt8} : ∀ {a : List UInt8} (b : List UInt8), c ∉ a → splitT c (a ++ c :: b) = a :: splitT c b
  | [], b, _ => by simp [splitT]
  | x :: a, b, h => by
    simp only [List.mem_cons, not_or] at h
    rw [List.cons_append]
    conv => lhs; unfold splitT
    rw [if_neg (fun e => h.1 e.symm), splitT_at b h.2]
    rfl
theorem first_of {c : UInt8} : ∀ {l : List UInt8}, c ∈ l → ∃ a b, l = a ++ c :: b ∧ c ∉ a
  | x :: l, h => by
    by_cases hx : x = c
    · subst hx
      exact ⟨[], l, rfl, by simp⟩
    · have : c ∈ l := by
        rcases List.mem_cons.1 h with e | e
        · exact absurd e.symm hx
        · exact e
      obtain ⟨a, b, rfl, hn⟩ := first_of this
      exact ⟨x :: a, b, rfl, by simp only [List.mem_cons, not_or]; exact ⟨fun e => hx e.symm, hn⟩⟩
theorem index_at {c : UInt8} (b : List UInt8) : ∀ {a : List UInt8}, c ∉ a → Lib.index (a ++ c :: b) [c] = a.length := by
  intro a h
  rw [Lib.index_one]
  induction a with
  | nil => simp [Lib.indexByte]
  | cons x a ih =>
    simp only [List.mem_cons, not_or] at h
    have e := ih h.2
    have hx : (x == c) = false := by simpa using fun e => h.1 e.symm
    rw [List.cons_append, Lib.indexByte, hx, e]
    simp only [Bool.false_eq_true, if_false, List.length_cons]
    rw [if_neg (by first | (simp; done) | (simp; omega))]
    omega
theorem splitK_eq (c : UInt8) : ∀ (n : Nat) (l : List UInt8), l.length ≤ n → Lib.splitK [c] 0 (l.count c) l = splitT c l
  | n, l, hn => by
    by_cases h : c ∈ l
    · obtain ⟨a, b, rfl, ha⟩ := first_of h
      obtain ⟨m, rfl⟩ : ∃ m, n = m + 1 := ⟨n - 1, by simp at hn; omega⟩
      have ih := splitK_eq c m b (by simp at hn; omega)
      have hc : (a ++ c :: b).count c = b.count c + 1 := by
        rw [List.count_append, List.count_eq_zero.2 ha, List.count_cons_self]
        omega
      rw [hc, splitT_at b ha, Lib.splitK, index_at b ha]
      rw [if_neg (by first | (simp; done) | (simp; omega))]
      simp only [Nat.add_zero, Int.toNat_natCast, List.length_cons, List.length_nil, Nat.zero_add]
      rw [List.take_left', show a ++ c :: b = (a ++ [c]) ++ b by simp, List.drop_left' (by simp), ih]
      rfl
    · rw [List.count_eq_zero.2 h, split_free h]
      rfl
def allO : List (Int × Int) := [(1, 0), (2, 0), (3, 0), (4, 0), (5, 0), (6, 0), (7, 0), (8, 1), (8, 2), (8, 3), (8, 4), (9, 0), (10, 0), (11, 0), (12, 0), (21, 0), (22, 0), (23, 0), (24, 0), (25, 0), (26, 0), (27, 0), (28, 0), (29, 0), (30, 0)]
def opT (w : List UInt8) : Option (Int × Int) := allO.find? fun x => wordT x.1 x.2 = w
theorem op_mem {w : List UInt8} {o c : Int} (h : opT w = some (o, c)) : (o, c) ∈ allO ∧ wordT o c = w := by
  unfold opT at h
  exact ⟨List.mem_of_find?_eq_some h, by simpa using List.find?_some h⟩
theorem op_back : ∀ x ∈ allO, opT (wordT x.1 x.2) = some x := by decide +kernel
def setT (i : LIns) (f : UInt8) (n : Int) : LIns := if f = 65 then { i with a := n } else if f = 66 then { i with b := n } else if f = 67 ∨ f = 68 then { i with c := n } else { i with n := n }
def argT (f : UInt8) (w : List UInt8) : Option Int :=
  if f = 78 then numT w 19 else match w with
  | [] => none
  | b :: r => if b = (if f = 68 then 103 else 114) then numT r 18 else none
def readA : List UInt8 → List (List UInt8) → LIns → Option LIns
  | f :: fs, w :: ws, i => (argT f w).bind fun n => readA fs ws (setT i f n)
  | _, _, i => some i
def readT (ws : List (List UInt8)) : Option LIns :=
  match opT (ws.getD 0 []) with
  | none => none
  | some x => if ws.length = (followT x.1).length + 1 then readA (followT x.1) (ws.drop 1) ⟨x.1, 0, 0, x.2, 0⟩ else none
def regionW : List UInt8 := [114, 101, 103, 105, 111, 110]
def publicW : List UInt8 := [112, 117, 98, 108, 105, 99]
def secretW : List UInt8 := [115, 101, 99, 114, 101, 116]
def lineP (p : LProg) (l : List UInt8) : Option LProg :=
  if (splitT 32 l).getD 0 [] = regionW then
    if (splitT 32 l).length ≠ 3 ∨ 0 < p.code.length ∨ ((splitT 32 l).getD 2 [] ≠ publicW ∧ (splitT 32 l).getD 2 [] ≠ secretW) then none
    else (numT ((splitT 32 l).getD 1 []) 18).map fun n => ⟨p.regs ++ [⟨n, decide ((splitT 32 l).getD 2 [] = secretW)⟩], p.code⟩
  else (readT (splitT 32 l)).map fun i => ⟨p.regs, p.code ++ [i]⟩
def parseGo : List (List UInt8) → Nat → LProg → LProg × Int × Int
  | [], k, p => (⟨[], []⟩, 2, k)
  | l :: ls, k, p =>
    if ls = [] then if l = [] ∧ hardOk p = true then (p, 0, 0) else (⟨[], []⟩, 2, k)
    else match lineP p l with
    | none => (⟨[], []⟩, 2, k)
    | some q => parseGo ls (k + 1) q
def parseT (s : List UInt8) : LProg × Int × Int := parseGo (splitT 10 s) 0 ⟨[], []⟩
end Go.Proofs.YtkkekbnhndfhjaaDoor
