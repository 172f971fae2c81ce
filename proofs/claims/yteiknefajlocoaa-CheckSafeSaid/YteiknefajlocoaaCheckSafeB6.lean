/- Laid together from: CheckL, RunM, Num, Ref1, Ref1b. -/
import Derived.Test.YteiknefajlocoaaCheckSafeB4
import Derived.Test.YteiknefajlocoaaCheckSafeB5
import Derived.Test.YteiknefajlocoaaProg
import Derived.Test.YteiknefajlocoaaCheckSafeB1
import Derived.WalkLawsBesides
import Derived.WalkSpells
import Derived.Outline

/- What a check tells is so: no fault, and nothing secret is told. No program in sight. -/
namespace Go.Proofs.Yteiknefajlocoaa
open Go.RowKit
set_option linter.unusedSimpArgs false
set_option linter.unusedVariables false

/-! which words are secret -/
def secAt : List LReg → Nat → Bool
  | [], _ => false
  | r :: l, n => if n < wordsOf r then r.secret else secAt l (n - wordsOf r)
theorem secAt_base : ∀ (l : List LReg) (r x : Nat), r < l.length → x < wordsOf (l.getD r default) → secAt l (((l.take r).map wordsOf).sum + x) = (l.getD r default).secret
  | [], r, x, h, _ => by simp at h
  | a :: l, 0, x, _, h => by
    simp only [List.getD_cons_zero] at h
    simp [secAt, h]
  | a :: l, r + 1, x, h, hx => by
    simp only [List.getD_cons_succ] at hx
    have := secAt_base l r x (by simpa using h) hx
    simp only [List.take_succ_cons, List.map_cons, List.sum_cons, List.getD_cons_succ, secAt]
    rw [if_neg (by omega), show wordsOf a + ((l.take r).map wordsOf).sum + x - wordsOf a = ((l.take r).map wordsOf).sum + x by omega, this]
def secW (p : LProg) (n : Nat) : Bool := secAt p.regs n
/-- two rows of words have the same public ones -/
def Pub (p : LProg) (a b : List Int) : Prop := ∀ n, secW p n = false → a.getD n 0 = b.getD n 0

/-! registers and words are of 64 bits -/
def All64 (l : List Int) : Prop := ∀ n : Nat, R64 (l.getD n 0)
theorem r64_zero : R64 0 := ⟨by omega, by omega⟩
theorem r64_wrap (x : Int) : R64 (wrap64 x) := by unfold R64 wrap64; omega
theorem r64_bits (o : BinOp) (a b : Int) (h : bits o .i64 a b = wrap64 (bits o .i64 a b)) : R64 (bits o .i64 a b) := by rw [h]; exact r64_wrap _
theorem bits_wrapped (a b : Int) : R64 (bits .and .i64 a b) ∧ R64 (bits .or .i64 a b) ∧ R64 (bits .xor .i64 a b) := by
  have e : ∀ x : Int, R64 (IntKind.i64.wrap x) := fun x => by rw [i64_is]; exact r64_wrap x
  exact ⟨e _, e _, e _⟩
theorem r64_nop {op a b : Int} (ha : R64 a) : R64 (nop op a b) := by
  have hb := bits_wrapped a b
  unfold nop
  repeat' split
  all_goals first | exact r64_wrap _ | exact hb.1 | exact hb.2.1 | exact hb.2.2 | exact ha | exact r64_zero
theorem All64.set {l : List Int} (h : All64 l) (k : Nat) {x : Int} (hx : R64 x) : All64 (l.set k x) := fun n => by
  rw [List.getD_eq_getElem?_getD, List.getElem?_set]
  by_cases e : k = n
  · subst e
    by_cases h2 : k < l.length
    · simpa [h2] using hx
    · simpa [h2] using r64_zero
  · rw [if_neg e, ← List.getD_eq_getElem?_getD]; exact h n
theorem set_get (l : List Int) (k : Nat) (x : Int) (n : Nat) : (l.set k x).getD n 0 = if n = k ∧ n < l.length then x else l.getD n 0 := by
  rw [List.getD_eq_getElem?_getD, List.getElem?_set]
  by_cases e : k = n
  · subst e
    by_cases h2 : k < l.length <;> simp [h2]
  · rw [if_neg e, if_neg (by omega), ← List.getD_eq_getElem?_getD]

/-! what is known of registers is so -/
def Sat (s : KSt) (r : List Int) : Prop := ∀ j, j < 8 → khas (s.getD j default).bits (r.getD j 0) = true
theorem Sat.mono {s t : KSt} {r : List Int} (hs : Sok s) (ht : Sok t) (h : Sat s r) (k : Sle s t) : Sat t r := fun j hj => by
  refine khas_mono ?_ (h j hj)
  rw [nrm_ok (hs.ok j), nrm_ok (ht.ok j)]
  exact (k j).1
theorem Sat.set {s : KSt} {r : List Int} (h : Sat s r) (hl : s.length = 8) (hr : r.length = 10) (a : Int) {k : LKn} {v : Int} (hv : khas k.bits v = true) : Sat (kset s a k) (rset r a v) := fun j hj => by
  rw [kset_get, hl]
  unfold rset
  rw [set_get, hr]
  by_cases e : j = a.toNat
  · rw [if_pos ⟨e, hj⟩, if_pos ⟨e, by omega⟩]; exact hv
  · rw [if_neg (by omega), if_neg (by omega)]; exact h j hj
/-- the state alone is turned, of a register that is as it was -/
theorem Sat.know {s : KSt} {r : List Int} (h : Sat s r) (hl : s.length = 8) (a : Int) {k : LKn} (hv : khas k.bits (rg r a) = true) : Sat (kset s a k) r := fun j hj => by
  rw [kset_get, hl]
  by_cases e : j = a.toNat
  · rw [if_pos ⟨e, hj⟩, e]; exact hv
  · rw [if_neg (by omega)]; exact h j hj
theorem okIn_iff {b n : Int} : okIn b n = true ↔ 0 ≤ n ∧ n < b := by simp [okIn]
theorem Sat.at_ {s : KSt} {r : List Int} (h : Sat s r) {a : Int} (ha : okIn 8 a = true) : khas (kg s a).bits (rg r a) = true := by
  rw [okIn_iff] at ha
  exact h a.toNat (by omega)
theorem khas_zero (b : Int) : khas b 0 = true := by
  unfold khas kfit
  simp [Int.pow_pos]
theorem khas_kop {op : Int} {a b : LKn} {x y : Int} (h : khas a.bits x = true) (k : khas b.bits y = true) : khas (kopK op a b).bits (nop op x y) = true := khas_op h k
theorem khas_sum {k : LKn} {x n : Int} (h : khas k.bits x = true) : khas (ksum k n).bits (wrap64 (x + n)) = true := by
  unfold ksum
  split
  · exact khas_17 rfl
  · exact khas_op (op := 1) h (khas_of n)
theorem khas_less' {a b : LKn} {n m : Int} (h : R64 n) (hn : khas a.bits n = true) (hm : khas b.bits m = true) (hb : nbelow m n = false) : khas (kless a b).bits n = true := khas_less h.1 h.2 hn hm hb

/-- the index of a word that is known to be there -/
theorem idx_inside {p : LProg} {s : KSt} {r : List Int} {i : LIns} (h : Sat s r) (hb : okIn 8 i.b = true) (hs : Sok s) (hop : i.op = 3 ∨ i.op = 4) (hn : 0 ≤ i.n) (hk : (ksum (kg s i.b) i.n).bits ≤ (regOf p i).log) (hl : (regOf p i).log ≤ 6) :
    insideB p i (idxOf r i) = true := by
  have e : idxOf r i = wrap64 (rg r i.b + i.n) := by unfold idxOf; rw [if_neg (by omega)]
  have h1 := khas_sum (n := i.n) (h.at_ hb)
  have ok := ksum_ok (kg s i.b) i.n
  rw [e]
  obtain ⟨m, hm⟩ : ∃ m : Nat, (ksum (kg s i.b) i.n).bits = m := ⟨(ksum (kg s i.b) i.n).bits.toNat, by have := ok.1; omega⟩
  rw [khas_iff (m := m) (by rw [nrm_ok ok, hm]) (by omega)] at h1
  have h2 := pow_le m (regOf p i).log.toNat (by omega)
  have h3 : ((wordsOf (regOf p i) : Nat) : Int) = 2 ^ (regOf p i).log.toNat := by unfold wordsOf; rw [Int.natCast_pow]; rfl
  simp only [insideB, Bool.and_eq_true, decide_eq_true_eq]
  rw [h3]
  omega

/-! one run -/
structure Good (p : LProg) (s : KSt) (a : Plc) : Prop where
  regs : a.regs.length = 10
  r64 : All64 a.regs
  sat : Sat s a.regs
  words : a.words.length = total p
  w64 : All64 a.words
  past : a.past.length = total p
  p64 : ∀ n, All64 (a.past.getD n [])
theorem Good.mono {p : LProg} {s t : KSt} {a : Plc} (hs : Sok s) (ht : Sok t) (h : Good p s a) (k : Sle s t) : Good p t a := ⟨h.1, h.2, h.3.mono hs ht k, h.4, h.5, h.6, h.7⟩
theorem Good.goTo {p : LProg} {s : KSt} {a : Plc} (h : Good p s a) (k : Nat) : Good p s { a with at_ := k } := ⟨h.1, h.2, h.3, h.4, h.5, h.6, h.7⟩
/-- what comes of an instruction of registers alone -/
theorem plainR_cases (r : List Int) (i : LIns) (P : List Int → Prop) (h1 : i.op = 1 → P (rset r i.a i.n)) (h2 : i.op = 2 → P (rset r i.a (rg r i.b))) (h10 : i.op = 10 → P (rset r i.a (wrap64 (rg r i.b + i.n))))
    (h11 : i.op = 11 → (rg r i.a < 0 ∨ i.n ≤ rg r i.a → P (rset r i.a 0)) ∧ (0 ≤ rg r i.a ∧ rg r i.a < i.n → P r)) (h12 : i.op = 12 → P r)
    (ho : i.op ≠ 1 → i.op ≠ 2 → i.op ≠ 10 → i.op ≠ 11 → i.op ≠ 12 → P (rset r i.a (nop (i.op - 20) (rg r i.b) (rg r i.c)))) : P (plainR r i) := by
  unfold plainR
  by_cases e1 : i.op = 1
  · rw [if_pos e1]; exact h1 e1
  rw [if_neg e1]
  by_cases e2 : i.op = 2
  · rw [if_pos e2]; exact h2 e2
  rw [if_neg e2]
  by_cases e10 : i.op = 10
  · rw [if_pos e10]; exact h10 e10
  rw [if_neg e10]
  by_cases e11 : i.op = 11
  · rw [if_pos e11]
    split
    · rename_i h; exact (h11 e11).1 h
    · rename_i h; exact (h11 e11).2 (by omega)
  rw [if_neg e11]
  by_cases e12 : i.op = 12
  · rw [if_pos e12]; exact h12 e12
  rw [if_neg e12]
  exact ho e1 e2 e10 e11 e12
theorem rset_len (r : List Int) (a v : Int) : (rset r a v).length = r.length := by simp [rset]
theorem All64.rset {r : List Int} (h : All64 r) (a : Int) {v : Int} (hv : R64 v) : All64 (rset r a v) := h.set _ hv
theorem all64_plain {r : List Int} {i : LIns} (h : All64 r) (hn : R64 i.n) : All64 (plainR r i) :=
  plainR_cases r i All64 (fun _ => h.rset _ hn) (fun _ => h.rset _ (h _)) (fun _ => h.rset _ (r64_wrap _)) (fun _ => ⟨fun _ => h.rset _ r64_zero, fun _ => h⟩) (fun _ => h) (fun _ _ _ _ _ => h.rset _ (r64_nop (h _)))
theorem plain_len (r : List Int) (i : LIns) : (plainR r i).length = r.length :=
  plainR_cases r i (fun r' => r'.length = r.length) (fun _ => rset_len _ _ _) (fun _ => rset_len _ _ _) (fun _ => rset_len _ _ _) (fun _ => ⟨fun _ => rset_len _ _ _, fun _ => rfl⟩) (fun _ => rfl) (fun _ _ _ _ _ => rset_len _ _ _)
/-- which registers an instruction names, of a program that may be -/
theorem ins_regs {p : LProg} {R : Int} {i : LIns} (h : insOk p R i = true) :
    (i.op = 1 → okIn R i.a = true) ∧ (i.op = 2 → okIn R i.a = true ∧ okIn R i.b = true) ∧ (i.op = 10 → okIn R i.a = true ∧ okIn R i.b = true) ∧ (i.op = 3 ∨ i.op = 4 → okIn R i.a = true ∧ okIn R i.b = true) ∧
      (i.op = 5 ∨ i.op = 6 → okIn R i.a = true) ∧ (i.op = 8 → okIn R i.a = true ∧ okIn R i.b = true ∧ 1 ≤ i.c ∧ i.c ≤ 4) ∧ (i.op = 9 → okIn R i.a = true) ∧ (i.op = 11 → okIn R i.a = true ∧ 1 ≤ i.n ∧ i.n ≤ 64) ∧
      (i.op ≠ 1 → i.op ≠ 2 → i.op ≠ 10 → i.op ≠ 3 → i.op ≠ 4 → i.op ≠ 5 → i.op ≠ 6 → i.op ≠ 7 → i.op ≠ 8 → i.op ≠ 9 → i.op ≠ 11 → i.op ≠ 12 → okIn R i.a = true ∧ okIn R i.b = true ∧ okIn R i.c = true ∧ 21 ≤ i.op ∧ i.op ≤ 30) ∧
      (i.op = 7 ∨ i.op = 8 → 0 ≤ i.n ∧ i.n.toNat < p.code.length) ∧ (1 ≤ i.op ∧ i.op ≤ 12 ∨ 21 ≤ i.op ∧ i.op ≤ 30) := by
  simp only [insOk] at h
  by_cases e1 : i.op = 1
  · simp [e1, okIn] at h ⊢; omega
  by_cases e2 : i.op = 2
  · simp [e2, okIn] at h ⊢; omega
  by_cases e10 : i.op = 10
  · simp [e10, okIn] at h ⊢; omega
  by_cases e3 : i.op = 3 ∨ i.op = 4
  · rcases e3 with e3 | e3 <;> simp [e3, okIn] at h ⊢ <;> omega
  by_cases e5 : i.op = 5 ∨ i.op = 6
  · rcases e5 with e5 | e5 <;> simp [e5, okIn] at h ⊢ <;> omega
  by_cases e7 : i.op = 7
  · simp [e7, okIn] at h ⊢; omega
  by_cases e8 : i.op = 8
  · simp [e8, okIn] at h ⊢; omega
  by_cases e9 : i.op = 9
  · simp [e9, okIn] at h ⊢; omega
  by_cases e11 : i.op = 11
  · simp [e11, okIn] at h ⊢; omega
  by_cases e12 : i.op = 12
  · simp [e12, okIn] at h ⊢
  rw [if_neg e1, if_neg e2, if_neg e10, if_neg e3, if_neg e5, if_neg e7, if_neg e8, if_neg e9, if_neg e11, if_neg e12] at h
  simp [okIn] at h
  simp [okIn]
  omega
theorem sat_plain {p : LProg} {s : KSt} {r : List Int} {i : LIns} (hok : insOk p 8 i = true) (hs : Sok s) (hl : r.length = 10) (h64 : All64 r) (h : Sat s r) (hw : isWord i = false) (h7 : i.op ≠ 7) (h8 : i.op ≠ 8) (h9 : i.op ≠ 9) : Sat (oneK p s i) (plainR r i) := by
  obtain ⟨g1, g2, g10, g3, g5, g8, g9, g11, go, g7, gop⟩ := ins_regs hok
  have hw3 : i.op ≠ 3 ∧ i.op ≠ 4 ∧ i.op ≠ 5 ∧ i.op ≠ 6 := by
    simp [isWord, isPut, isTake] at hw; omega
  unfold oneK
  refine plainR_cases r i (fun r' => Sat _ r') (fun e => ?_) (fun e => ?_) (fun e => ?_) (fun e => ?_) (fun e => ?_) (fun n1 n2 n10 n11 n12 => ?_)
  · rw [if_pos e]; exact h.set hs.len hl _ (khas_of _)
  · rw [if_neg (by omega), if_pos e]; exact h.set hs.len hl _ (h.at_ (g2 e).2)
  · rw [if_neg (by omega), if_neg (by omega), if_pos e]; exact h.set hs.len hl _ (khas_sum (h.at_ (g10 e).2))
  · rw [if_neg (by omega), if_neg (by omega), if_neg (by omega), if_neg (by omega), if_pos e]
    refine ⟨fun _ => h.set hs.len hl _ (khas_zero _), fun hin => h.know hs.len _ ?_⟩
    refine khas_less' (h64 _) (h.at_ (g11 e).1) (khas_of (i.n - 1)) ?_
    unfold nbelow
    rw [u64_small (by have := (g11 e).2.1; omega) (by have := (g11 e).2.2; omega), u64_small hin.1 (by have := (g11 e).2.2; omega)]
    simp; omega
  · rw [if_neg (by omega), if_neg (by omega), if_neg (by omega), if_neg (by omega), if_neg (by omega), if_pos (by omega)]; exact h
  · rw [if_neg (by omega), if_neg (by omega), if_neg (by omega), if_neg (by omega), if_neg (by omega), if_neg (by omega)]
    have := go n1 n2 n10 hw3.1 hw3.2.1 hw3.2.2.1 hw3.2.2.2 h7 h8 h9 n11 n12
    exact h.set hs.len hl _ (khas_op (h.at_ this.2.1) (h.at_ this.2.2.1))
theorem nbelow_no {a b : Int} (h : u64 b ≤ u64 a) : nbelow a b = false := by unfold nbelow; simp; omega
/-- behind a test -/
theorem sat_branch {p : LProg} {s : KSt} {r : List Int} {i : LIns} (ha : okIn 8 i.a = true) (hb : okIn 8 i.b = true) (hs : Sok s) (hl : r.length = 10) (h64 : All64 r) (h : Sat s r) : Sat (branchK s i (nholds i.c (rg r i.a) (rg r i.b))) r := by
  have ka := h.at_ ha
  have kb := h.at_ hb
  generalize hc : nholds i.c (rg r i.a) (rg r i.b) = hold
  have t1 : tells1 i.c hold = true → nbelow (rg r i.b) (rg r i.a) = false := by
    intro t
    apply nbelow_no
    subst hc
    simp only [tells1, nholds] at t
    by_cases e1 : i.c = 1
    · simp [e1] at t; rw [t]; omega
    by_cases e2 : i.c = 2
    · simp [e2] at t; rw [t]; omega
    by_cases e3 : i.c = 3
    · simp [e3] at t; omega
    by_cases e4 : i.c = 4
    · simp [e4] at t; omega
    simp [e1, e2, e3, e4] at t
  have t2 : tells2 i.c hold = true → nbelow (rg r i.a) (rg r i.b) = false := by
    intro t
    apply nbelow_no
    subst hc
    simp only [tells2, nholds] at t
    by_cases e1 : i.c = 1
    · simp [e1] at t; rw [t]; omega
    by_cases e2 : i.c = 2
    · simp [e2] at t; rw [t]; omega
    by_cases e3 : i.c = 3
    · simp [e3] at t; omega
    by_cases e4 : i.c = 4
    · simp [e4] at t; omega
    simp [e1, e2, e3, e4] at t
  simp only [branchK]
  have h1 : Sat (if tells1 i.c hold then kset s i.a (kless (kg s i.a) (kg s i.b)) else s) r := by
    split
    · rename_i e
      exact h.know hs.len _ (khas_less' (h64 _) ka kb (t1 e))
    · exact h
  have hl1 : (if tells1 i.c hold then kset s i.a (kless (kg s i.a) (kg s i.b)) else s).length = 8 := by
    split <;> simp [kset, hs.len]
  split
  · rename_i e
    exact h1.know hl1 _ (khas_less' (h64 _) kb ka (t2 e))
  · exact h1
end Go.Proofs.Yteiknefajlocoaa
/- How runs lie in memory: registers, what was shown, the words of regions. No program in sight. -/
namespace Go.Proofs.Yteiknefajlocoaa
open Go.RowKit
set_option linter.unusedVariables false
set_option linter.unusedSimpArgs false

theorem grown_trans {w w1 w2 : World} {row : Option Nat} (h : w.grownBy w1 row) (k : w1.grownBy w2 row) : w.grownBy w2 row :=
  ⟨k.os.trans h.os, k.tape.trans h.tape, k.output.trans h.output, Nat.le_trans h.size k.size, fun j hj hne => (k.block j (Nat.lt_of_lt_of_le hj h.size) hne).trans (h.block j hj hne)⟩
theorem ext_grown {w w' : World} (h : Ext w w') (row : Option Nat) : w.grownBy w' row :=
  ⟨h.os, h.tape, h.output, h.size, fun j hj _ => Below.block h j hj⟩
theorem set_grown (w : World) (p : Addr) (u : Value) : w.grownBy (w.setCell p u) (some p.block) :=
  ⟨rfl, rfl, rfl, by simp [World.setCell], fun j hj hne => Below.heap_setCell w p u j (by intro e; exact hne (by rw [e]))⟩
theorem grown_below {B : Nat} {w0 w w' : World} {row : Option Nat} (h : Below B w0 w) (hg : w.grownBy w' row) (hB : B ≤ w.heap.size) (hr : ∀ k, row = some k → B ≤ k) : Below B w0 w' := Below.grown h hg hB hr
theorem own_grown {w w' : World} {base : Nat} {e : TypeId} {size n : Nat} {v : Value} {xs : List Value} {row : Option Nat} (h : w.ownsRow base e size v n xs) (hg : w.grownBy w' row) (hne : ∀ k, row = some k → v.ownBlock ≠ some k) : w'.ownsRow base e size v n xs := by
  refine h.kept hg ?_
  cases hr : row with
  | none => cases hv : v.ownBlock <;> simp
  | some k => exact .inr (hne k hr)

/-! registers -/
def regV (l : List Int) : Array Value := (l.map (Value.int .i64)).toArray
theorem regV_size (l : List Int) : (regV l).size = l.length := by simp [regV]
theorem regV_get {l : List Int} {a : Int} (h : a.toNat < l.length) : (regV l)[a.toNat]? = some (.int .i64 (rg l a)) := by
  simp [regV, rg, h]
theorem regV_set (l : List Int) (a v : Int) : (regV l).setIfInBounds a.toNat (.int .i64 v) = regV (rset l a v) := by
  unfold regV rset
  apply Array.ext_getElem?
  intro j
  simp [Array.getElem?_setIfInBounds, List.getElem?_set]
theorem reg_cell {w : World} {k : Nat} {E : TypeId} {l : List Int} (h : Blk w k E (regV l)) (hl : l.length = 10) {a : Int} (ha : okIn 10 a = true) : w.cell? ⟨k, a.toNat, none⟩ = some (.int .i64 (rg l a)) ∧ w.frozen? ⟨k, a.toNat, none⟩ = false := by
  obtain ⟨h0, h1⟩ := okIn_iff.1 ha
  exact ⟨by rw [h.cell, regV_get (by omega)], h.frozen _⟩
theorem rg64 {l : List Int} (h : All64 l) (a : Int) : R64 (rg l a) := h _

/-! what was shown -/
def seeCell (s : LSee) : Nat → Value
  | 0 => .int .i64 s.kind
  | 1 => .int .i64 s.a
  | _ => .int .i64 s.b
def seeCells (s : LSee) : List Value := [.int .i64 s.kind, .int .i64 s.a, .int .i64 s.b]
theorem seeCells_get (s : LSee) (j : Nat) (hj : j < 3) : (seeCells s)[j]? = some (seeCell s j) := by
  rcases (show j = 0 ∨ j = 1 ∨ j = 2 by omega) with rfl | rfl | rfl <;> rfl
/-- a slice that reads as what was shown -/
def SeenAt (w : World) (v : Value) (l : List LSee) : Prop :=
  ∃ oa cap b o, v = .slice oa l.length cap ∧ l.length ≤ cap ∧ cap ≤ maxLen ∧ Rows w oa b o l.length 3 fun i => seeCell (l.getD i default)
theorem SeenAt.ext {w w' : World} {v : Value} {l : List LSee} (h : SeenAt w v l) (hx : Ext w w') : SeenAt w' v l := by
  obtain ⟨oa, cap, b, o, h1, h2, h3, h4⟩ := h
  exact ⟨oa, cap, b, o, h1, h2, h3, h4.ext hx⟩
theorem seen_own {w : World} {base : Nat} {e : TypeId} {v : Value} {l : List LSee} (h : w.ownsRow base e 3 v l.length (l.flatMap seeCells)) : SeenAt w v l := by
  obtain ⟨oa, cap, b, h1, h2, h3, h4, -⟩ := own_rows (c := 3) (f := seeCells) (g := seeCell) (by omega) (fun _ => rfl) seeCells_get h
  exact ⟨oa, cap, b, 0, h1, h2, h3, h4⟩
theorem seen_nil (w : World) : SeenAt w (.slice none 0 0) [] := ⟨none, 0, 0, 0, rfl, by simp, by decide, ⟨fun h => by simp at h, fun i j hi hj => by simp at hi⟩⟩
theorem Rows.see {w : World} {oa : Option Addr} {b o : Nat} {l : List LSee} (h : Rows w oa b o l.length 3 fun i => seeCell (l.getD i default)) (k : Nat) (hk : k < l.length) :
    w.cell? ⟨b, o + k * 3, none⟩ = some (.int .i64 (l.getD k default).kind) ∧ w.cell? ⟨b, o + k * 3 + 1, none⟩ = some (.int .i64 (l.getD k default).a) ∧ w.cell? ⟨b, o + k * 3 + 2, none⟩ = some (.int .i64 (l.getD k default).b) :=
  ⟨h.cell k 0 hk (by omega), h.cell k 1 hk (by omega), h.cell k 2 hk (by omega)⟩
theorem src_none (w : World) (size : Nat) : Src w size none 0 [] := ⟨by simp, fun _ => rfl, (fun ad h => by cases h), (fun u hu => by simp at hu)⟩

/-! what a run shows at its end -/
def ShownAt (w : World) (v : Value) (fin value : Int) (steps : Nat) (seen : List LSee) (mem : List (List Int)) : Prop :=
  ∃ vs vm, v = .agg #[.int .i64 fin, .int .i64 value, .int .i64 steps, vs, vm] ∧ SeenAt w vs seen ∧ MemAt w vm mem
theorem ShownAt.ext {w w' : World} {v : Value} {fin value : Int} {steps : Nat} {seen : List LSee} {mem : List (List Int)} (h : ShownAt w v fin value steps seen mem) (hx : Ext w w') : ShownAt w' v fin value steps seen mem := by
  obtain ⟨vs, vm, h1, h2, h3⟩ := h
  exact ⟨vs, vm, h1, h2.ext hx, h3.ext hx⟩

/-! the words of regions, row by row: all rows of the call's own, no two the same, all below U -/
def MemOwn (w : World) (B U : Nat) (T E : TypeId) (v : Value) (m : List (List Int)) : Prop :=
  ∃ vs : List Value, vs.length = m.length ∧ w.ownsRow B T 1 v m.length vs ∧ (∀ b, v.ownBlock = some b → b < U) ∧
    (∀ i, i < m.length → w.ownsRow B E 1 (vs.getD i undef) (m.getD i default).length ((m.getD i default).map (Value.int .i64)) ∧ ∀ b, (vs.getD i undef).ownBlock = some b → b < U) ∧
    (∀ i j, i < j → j < m.length → ∀ b, (vs.getD i undef).ownBlock = some b → (vs.getD j undef).ownBlock ≠ some b)
theorem MemOwn.below {w w' : World} {B U : Nat} {T E : TypeId} {v : Value} {m : List (List Int)} (h : MemOwn w B U T E v m) (hb : Below U w w') : MemOwn w' B U T E v m := by
  obtain ⟨vs, h1, h2, h3, h4, h5⟩ := h
  have key : ∀ {e : TypeId} {s n : Nat} {u : Value} {xs : List Value}, w.ownsRow B e s u n xs → (∀ b, u.ownBlock = some b → b < U) → w'.ownsRow B e s u n xs := by
    intro e s n u xs ho hlt
    refine ⟨ho.1, ?_⟩
    rcases ho.2 with hn | ⟨g, cap, cur, rfl, a1, a2, a3⟩
    · exact .inl hn
    · exact .inr ⟨g, cap, cur, rfl, a1, (hb.block g (hlt g rfl)).trans a2, a3⟩
  exact ⟨vs, h1, key h2 h3, h3, fun i hi => ⟨key (h4 i hi).1 (h4 i hi).2, (h4 i hi).2⟩, h5⟩
/-- where a word lies -/
theorem MemOwn.at_ {w : World} {B U : Nat} {T E : TypeId} {v : Value} {m : List (List Int)} (h : MemOwn w B U T E v m) {c : Nat} (hc : c < m.length) (hn : 0 < (m.getD c default).length) :
    ∃ ko capo k cap, v = .slice (some ⟨ko, 0, none⟩) m.length capo ∧ B ≤ ko ∧ B ≤ k ∧ k < U ∧ w.cell? ⟨ko, c, none⟩ = some (.slice (some ⟨k, 0, none⟩) (m.getD c default).length cap) ∧
      (∀ x, x < (m.getD c default).length → w.cell? ⟨k, x, none⟩ = some (.int .i64 ((m.getD c default).getD x 0)) ∧ w.frozen? ⟨k, x, none⟩ = false) := by
  obtain ⟨vs, h1, h2, h3, h4, h5⟩ := h
  obtain ⟨h6, h7⟩ := h4 c hc
  have h2' := h2
  have h6' := h6
  rcases h2.2 with ⟨-, h0⟩ | ⟨ko, capo, cur, rfl, a1, a2, a3⟩
  · omega
  rcases h6.2 with ⟨-, h0⟩ | ⟨k, cap, cur', hv, b1, b2, b3⟩
  · omega
  rw [hv] at h6' h7
  refine ⟨ko, capo, k, cap, rfl, a1, b1, h7 k rfl, ?_, fun x hx => ⟨?_, ?_⟩⟩
  · rw [h2'.cellAt c (by omega), ← hv]
    have : c < vs.length := by omega
    simp [this]
  · rw [h6'.cellAt x (by omega)]
    generalize m.getD c default = l at *
    simp [hx]
  · exact h6'.frozenAt x
theorem row_lt {w : World} {B : Nat} {e : TypeId} {s n : Nat} {v : Value} {xs : List Value} (h : w.ownsRow B e s v n xs) : ∀ k, v.ownBlock = some k → k < w.heap.size := fun k hk => (h.lt k hk).2
/-- a word put -/
theorem MemOwn.set_ {w : World} {B U : Nat} {T E : TypeId} {v : Value} {m : List (List Int)} (h : MemOwn w B U T E v m) (hTE : T ≠ E) {c : Nat} (hc : c < m.length) {x : Nat} (hx : x < (m.getD c default).length) {ko k cap : Nat} {capo : Nat}
    (hv : v = .slice (some ⟨ko, 0, none⟩) m.length capo) (hk : w.cell? ⟨ko, c, none⟩ = some (.slice (some ⟨k, 0, none⟩) (m.getD c default).length cap)) (z : Int) :
    MemOwn (w.setCell ⟨k, x, none⟩ (.int .i64 z)) B U T E v (m.set c ((m.getD c default).set x z)) := by
  obtain ⟨vs, h1, h2, h3, h4, h5⟩ := h
  subst hv
  have hcell := h2.cellAt c (by omega)
  rw [hk] at hcell
  have hcv : c < vs.length := by omega
  have hvc : vs.getD c undef = .slice (some ⟨k, 0, none⟩) (m.getD c default).length cap := by
    have : vs[c]? = some (vs.getD c undef) := by simp [hcv]
    rw [this] at hcell
    exact (Option.some.inj hcell).symm
  obtain ⟨h6, h7⟩ := h4 c hc
  rw [hvc] at h6 h7
  have hst := (h6.stored x (.int .i64 z))
  have hlenm : (m.set c ((m.getD c default).set x z)).length = m.length := by simp
  have hg : ∀ i, i < m.length → (m.set c ((m.getD c default).set x z)).getD i default = if i = c then (m.getD c default).set x z else m.getD i default := by
    intro i hi
    by_cases e : i = c
    · subst e; simp [hi]
    · rw [if_neg e, List.getD_eq_getElem?_getD, List.getElem?_set, if_neg (by omega), ← List.getD_eq_getElem?_getD]
  have hkU := h7 k rfl
  have hkT : Value.ownBlock (.slice (some ⟨ko, 0, none⟩) m.length capo) ≠ some k := by
    intro e
    have e2 : ko = k := by simpa [Value.ownBlock] using e
    subst e2
    rcases h2.2 with ⟨h0, -⟩ | ⟨g, c1, cur, hh, a1, a2, -⟩
    · cases h0
    · rcases h6.2 with ⟨h0, -⟩ | ⟨g', c2, cur', hh', b1, b2, -⟩
      · cases h0
      · simp only [Value.slice.injEq, Option.some.injEq, Addr.mk.injEq, and_true, true_and] at hh hh'
        obtain ⟨rfl, -⟩ := hh
        obtain ⟨rfl, -⟩ := hh'
        rw [a2] at b2
        simp only [Option.some.injEq, Obj.cells.injEq, and_true] at b2
        exact hTE b2.2
  have hset := set_grown w ⟨k, x, none⟩ (.int .i64 z)
  refine ⟨vs, by rw [hlenm, h1], ?_, h3, fun i hi => ?_, fun i j hij hj => ?_⟩
  · rw [hlenm]
    exact own_grown h2 hset (by intro k' e; simp only [Option.some.injEq] at e; subst e; exact hkT)
  · rw [hlenm] at hi
    rw [hg i hi]
    by_cases e : i = c
    · subst e
      rw [if_pos rfl, hvc]
      refine ⟨?_, h7⟩
      have := hst.1
      rw [List.length_set]
      rw [List.map_set]
      exact this
    · rw [if_neg e]
      obtain ⟨h8, h9⟩ := h4 i hi
      refine ⟨own_grown h8 hset ?_, h9⟩
      intro k' e'
      simp only [Option.some.injEq] at e'
      subst e'
      intro hb
      rcases Nat.lt_or_ge i c with hlt | hge
      · exact h5 i c hlt hc k hb (by rw [hvc]; rfl)
      · exact h5 c i (by omega) hi k (by rw [hvc]; rfl) hb
  · rw [hlenm] at hj
    exact h5 i j hij hj
/-- what it reads as -/
theorem MemOwn.mem {w : World} {B U : Nat} {T E : TypeId} {v : Value} {m : List (List Int)} (h : MemOwn w B U T E v m) (h64 : ∀ l ∈ m, ∀ x ∈ l, R64 x) : MemAt w v m := by
  obtain ⟨vs, h1, h2, h3, h4, h5⟩ := h
  have hs : vs = vs.flatMap fun x => [x] := by
    induction vs with
    | nil => rfl
    | cons x l ih => simp
  rw [← h1, hs] at h2
  obtain ⟨oa, cap, b, e1, e2, e3, e4, -⟩ := own_rows (c := 1) (f := fun x : Value => [x]) (g := fun x _ => x) (by omega) (fun _ => rfl) (fun x j hj => by
    obtain rfl : j = 0 := by omega
    rfl) (by simpa using h2)
  rw [h1] at e1 e2 e4
  refine ⟨oa, cap, b, 0, e1, e2, e3, fun i => vs.getD i default, e4, fun i hi => ?_⟩
  have h6 := (h4 i hi).1
  have e : vs.getD i default = vs.getD i undef := by
    have : i < vs.length := by omega
    simp [this]
  simp only [e]
  exact ints_own h6 (h64 _ (getD_mem hi))
theorem own_ne2 {w : World} {B B' : Nat} {e e' : TypeId} {s s' n n' : Nat} {v v' : Value} {xs xs' : List Value} (h : w.ownsRow B e s v n xs) (h' : w.ownsRow B' e' s' v' n' xs') (hne : e ≠ e') : ∀ k, v.ownBlock = some k → v'.ownBlock ≠ some k := by
  intro k hk hk'
  rcases h.2 with ⟨rfl, _⟩ | ⟨g, c, cur, rfl, _, a2, _⟩
  · cases hk
  rcases h'.2 with ⟨rfl, _⟩ | ⟨g', c', cur', rfl, _, b2, _⟩
  · cases hk'
  have e1 : g = k := by simpa [Value.ownBlock] using hk
  have e2 : g' = k := by simpa [Value.ownBlock] using hk'
  subst e1; subst e2
  rw [a2] at b2
  simp only [Option.some.injEq, Obj.cells.injEq, and_true] at b2
  exact hne b2.2
theorem own_base {w : World} {base : Nat} {e : TypeId} {c n : Nat} {v : Value} {xs : List Value} (h : w.ownsRow base e c v n xs) : ∀ k, v.ownBlock = some k → base ≤ k := fun k hk => (h.lt k hk).1
theorem mem_nil (w : World) (B U : Nat) (T E : TypeId) : MemOwn w B U T E (.slice none 0 0) [] :=
  ⟨[], rfl, World.ownsRow_nil _ _ _ _, fun b h => by simp [Value.ownBlock] at h, fun i hi => by simp at hi, fun i j _ hj => by simp at hj⟩
/-- one row more -/
theorem mem_push {wr w1 w2 w3 : World} {B : Nat} {T E : TypeId} {out out' v1 : Value} {vs : List Value} {ml : List (List Int)} {l : List Int} (hTE : T ≠ E) (h1 : vs.length = ml.length) (h2 : wr.ownsRow B T 1 out ml.length vs)
    (h4 : ∀ i, i < ml.length → wr.ownsRow B E 1 (vs.getD i undef) (ml.getD i default).length ((ml.getD i default).map (Value.int .i64)))
    (h5 : ∀ i j, i < j → j < ml.length → ∀ b, (vs.getD i undef).ownBlock = some b → (vs.getD j undef).ownBlock ≠ some b)
    (hx : Ext wr w2) (hv1 : w2.ownsRow B E 1 v1 l.length (l.map (Value.int .i64))) (hat : ∀ b, v1.ownBlock = some b → wr.heap.size ≤ b)
    (hown : w3.ownsRow B T 1 out' (ml.length + 1) (vs ++ [v1])) (hg : w2.grownBy w3 out.ownBlock) : MemOwn w3 B w3.heap.size T E out' (ml ++ [l]) := by
  have hlen : (ml ++ [l]).length = ml.length + 1 := by simp
  have hold : ∀ i, i < ml.length → w3.ownsRow B E 1 (vs.getD i undef) (ml.getD i default).length ((ml.getD i default).map (Value.int .i64)) := fun i hi =>
    own_grown (own_ext (h4 i hi) hx) hg (fun k hk he => own_ne2 h2 (h4 i hi) hTE k hk he)
  have hnew : w3.ownsRow B E 1 v1 l.length (l.map (Value.int .i64)) := own_grown hv1 hg (fun k hk he => by
    have a := row_lt h2 k hk
    have b := hat k he
    omega)
  have gv : ∀ i, i < ml.length → (vs ++ [v1]).getD i undef = vs.getD i undef := fun i hi => by
    have : i < vs.length := by omega
    simp [List.getD_eq_getElem?_getD, List.getElem?_append_left this]
  have gl : (vs ++ [v1]).getD ml.length undef = v1 := by rw [← h1]; simp
  have mv : ∀ i, i < ml.length → (ml ++ [l]).getD i default = ml.getD i default := fun i hi => by simp [List.getD_eq_getElem?_getD, List.getElem?_append_left hi]
  have mlv : (ml ++ [l]).getD ml.length default = l := by simp
  refine ⟨vs ++ [v1], by simp [h1], by rw [hlen]; exact hown, row_lt hown, fun i hi => ?_, fun i j hij hj => ?_⟩
  · rw [hlen] at hi
    by_cases e : i < ml.length
    · rw [gv i e, mv i e]; exact ⟨hold i e, row_lt (hold i e)⟩
    · obtain rfl : i = ml.length := by omega
      rw [gl, mlv]; exact ⟨hnew, row_lt hnew⟩
  · rw [hlen] at hj
    intro b hb
    by_cases e : j < ml.length
    · rw [gv i (by omega)] at hb
      rw [gv j e]; exact h5 i j hij e b hb
    · obtain rfl : j = ml.length := by omega
      rw [gv i hij] at hb
      rw [gl]
      intro hb'
      have a := row_lt (h4 i hij) b hb
      have b := hat b hb'
      omega
end Go.Proofs.Yteiknefajlocoaa
/- What num.Op and num.Holds return, for any numbers: the walks. -/
namespace Go.Proofs.Yteiknefajlocoaa
open Go.ChangeShapes Go.WideShapes Go.ChangeAt Go.RowKit

theorem u64_ne {b : Int} (h : (u64 b == 0) = false) : ¬ u64 b = 0 := by simpa using h

set_option maxHeartbeats 1000000 in
theorem numOp_c (op a b : Int) (w : World) :
    Calls Try.prog 137 #[.int .i64 op, .int .i64 a, .int .i64 b] w fun e w' => e = .returned (.int .i64 (nop op a b)) ∧ w = w' := by
  have H63 := and63' b
  have hu := u64_is b
  have hua := u64_is a
  go_enter Try.func137, Try.ntmps137
  go_wp2
  all_goals first
    | (exfalso; simp_all; done)
    | (go_ret; refine ⟨ret_i ?_, rfl⟩; simp_all [nop, sh_min, wrap64_u64, u64_tdiv, u64_tmod])

theorem holdsF_c (c op : Int) (is : Bool) (p : Addr) (w : World) (hc : w.cell? p = some (.int .i64 op)) :
    Calls Try.prog 134 #[.int .i64 c, .bool is, .pointer (some p)] w fun e w' => e = .returned (.bool (c == op && is)) ∧ w = w' := by
  go_enter Try.func134, Try.ntmps134
  go_wp2
  all_goals go_ret
  all_goals exact ⟨ret_b (by simp_all), rfl⟩

set_option maxHeartbeats 1000000 in
theorem numHolds_c (op a b : Int) (w : World) :
    Calls Try.prog 106 #[.int .i64 op, .int .i64 a, .int .i64 b] w fun e w' => e = .returned (.bool (nholds op a b)) ∧ Ext w w' := by
  have hu := u64_is b
  have hua := u64_is a
  have hmf : ∀ (fn : Fn) (first cap : Array Value) (w : World), (Instr.makeFunc fn first cap).run Try.prog w = .ok (.func fn first cap) w := fun _ _ _ _ => rfl
  go_enter Try.func106, Try.ntmps106
  go_wp2_with (go_at_call 134; refine (holdsF_c _ op _ _ _ (by go_cell)).mono ?_; rintro e w' ⟨rfl, rfl⟩)
  all_goals go_ret
  all_goals refine ⟨ret_b ?_, (Ext.refl _).alloc _⟩
  all_goals (rw [Bool.eq_iff_iff]; simp [nholds]; grind)
end Go.Proofs.Yteiknefajlocoaa
/- The reference's numbers: walks. -/
namespace Go.Proofs.Yteiknefajlocoaa
open Go.ChangeShapes Go.WideShapes Go.ChangeAt Go.RowKit

theorem info64 : (Try.prog.info? 165).map (·.size) = some 64 := by kernel_rfl

set_option maxHeartbeats 1000000 in
theorem bits_c (n : Int) (w : World) (h0 : -9223372036854775808 ≤ n) (h1 : n ≤ 9223372036854775807) :
    Calls Try.prog 131 #[.int .i64 n] w fun e w' => e = .returned (.agg (arr (tb n))) ∧ Ext w w' := by
  go_enter Try.func131, Try.ntmps131
  go_wp2
  rw [← arr_zero]
  go_loopw [0, 4] (fun v i wr => ∃ k : Nat, k ≤ 64 ∧ i = .int .i64 k ∧ v = .int .i64 (n / 2 ^ k) ∧ Below w.heap.size w wr ∧ Blk wr w.heap.size 165 (arr (fun _ => false)) ∧ Blk wr (w.heap.size + 1) 165 (arr (bitsTo n k))) (fun _ i _ => 64 - (intOf i).toNat)
  case atStart =>
    refine ⟨0, by omega, rfl, by simp, ?_, ?_, ?_⟩
    · exact ((Ext.refl _).alloc _).alloc _
    · exact (Blk.new _ _ _).alloc _
    · rw [bitsTo_zero]; have := Blk.new (w.alloc (.cells (arr fun _ => false) 165)) 165 (arr fun _ => false); simpa using this
  case round =>
    obtain ⟨k, hk, rfl, rfl, hb, hz, hl⟩ := hrel
    have hnn := half n k
    obtain ⟨hb0, hb1⟩ := half_bd n k h0 h1
    by_cases hlt : k < 64
    · have hcell : wr.cell? ⟨w.heap.size + 1, k, none⟩ = some (.bool (bitsTo n k k)) := by rw [hl.cell, arr_get _ _ hlt]
      have hfz := hl.frozen k
      have htb : tb n k = decide (n / 2 ^ k % 2 = 1) := rfl
      generalize n / 2 ^ k = m at *
      have Hnn := Lib.hid hnn
      have Htb := Lib.hid htb
      clear hnn htb
      have hstep : ∀ b : Bool, b = decide (m % 2 = 1) → Blk (wr.setCell ⟨w.heap.size + 1, k, none⟩ (.bool b)) (w.heap.size + 1) 165 (arr (bitsTo n (k + 1))) := fun b hb => by
        have := hl.set_ k (.bool b)
        rwa [bitsTo_succ n k hlt b (by rw [hb, Htb.out])] at this
      have hz' : ∀ b : Bool, Blk (wr.setCell ⟨w.heap.size + 1, k, none⟩ (.bool b)) w.heap.size 165 (arr fun _ => false) := fun b => hz.far (by simp) _
      have hb' : ∀ b : Bool, Below w.heap.size w (wr.setCell ⟨w.heap.size + 1, k, none⟩ (.bool b)) := fun b => hb.setCell (by simp) _
      have Hs := Lib.hid hstep
      have Hz := Lib.hid hz'
      have Hb := Lib.hid hb'
      clear hstep hz' hb' hz hl hb
      by_cases hp : m % 2 = 0
      · have ht := tmod2_even m hp
        have hd := tdiv2_even m hp
        go_wp2
        go_roundw
        case rel => exact ⟨k + 1, by omega, by go_num, by rw [← Hnn.out], Hb.out _, Hz.out _, Hs.out _ (by simp; omega)⟩
        case measure => simp [intOf]; omega
      · by_cases hs : 0 ≤ m
        · have ht := tmod2_pos m hp hs
          have hd := tdiv2_even (m - 1) (by omega)
          have hr : (m - 1) / 2 = m / 2 := by omega
          go_wp2
          go_roundw
          case rel => exact ⟨k + 1, by omega, by go_num, by rw [← Hnn.out], Hb.out _, Hz.out _, Hs.out _ (by simp; omega)⟩
          case measure => simp [intOf]; omega
        · have ht := tmod2_neg m hp hs
          have hd := tdiv2_even (m - 1) (by omega)
          have hr : (m - 1) / 2 = m / 2 := by omega
          go_wp2
          go_roundw
          case rel => exact ⟨k + 1, by omega, by go_num, by rw [← Hnn.out], Hb.out _, Hz.out _, Hs.out _ (by simp; omega)⟩
          case measure => simp [intOf]; omega
    · have : k = 64 := by omega
      subst this
      clear hnn hlt
      go_wp2_with (first | ((with_reducible refine load_all hl ?_ Try.underlying165 ?_ ?_ ?_); rfl; rfl; (rw [arr_size]; exact info64)) | ((with_reducible refine store_all hz (arr (bitsTo n 64)) ?_ ?_ ?_ ?_ ?_ ?_); rfl; rfl; (simp [arr_size]); (rw [arr_size]; exact info64); exact arr_one _))
      exact bodyPost_ret (results_blk (hz.stored (arr (bitsTo n 64)) (by simp [arr_size])) rfl _ rfl Try.underlying165 rfl (by rw [arr_size]; exact info64)) rfl ⟨ret_v (by rw [bitsTo_all]), below_setCells _ hb (Nat.le_refl _) 0⟩

set_option maxHeartbeats 1000000 in
theorem of_c (f : Nat → Bool) (w : World) :
    Calls Try.prog 147 #[.agg (arr f)] w fun e w' => e = .returned (.int .i64 (ofB f)) ∧ Ext w w' := by
  go_enter Try.func147, Try.ntmps147
  go_wp2
  go_loop [3, 4, 5] (fun s p i => ∃ k : Nat, k ≤ 64 ∧ i = .int .i64 k ∧ s = .int .i64 (wrap64 (sumTo f k)) ∧ p = .int .i64 (wrap64 (2 ^ k))) (fun _ _ i => 64 - (intOf i).toNat)
  case atStart => exact ⟨0, by omega, rfl, by simp [sumTo, wrap64], by simp [wrap64]⟩
  case round =>
    obtain ⟨k, hk, rfl, rfl, rfl⟩ := hrel
    by_cases hlt : k < 64
    · have hget := arr_at f k
      have hsz := arr_size f
      by_cases hb : f k = true
      · go_wp2
        go_round
        case rel => exact ⟨k + 1, by omega, by go_num, by rw [← sum_yes f k hb], by rw [← pow_yes]⟩
        case measure => simp [intOf]; omega
      · have hb' : f k = false := by simpa using hb
        have Hsum := Lib.hid (sum_no f k hb')
        clear hb
        go_wp2
        go_round
        case rel => exact ⟨k + 1, by omega, by go_num, by rw [← Hsum.out], by rw [← pow_yes]⟩
        case measure => simp [intOf]; omega
    · obtain rfl : k = 64 := by omega
      clear hlt
      go_wp2
      go_ret
      exact ⟨rfl, (Ext.refl _).alloc _⟩

set_option maxHeartbeats 2000000 in
theorem bitwise_c (op a b : Int) (w : World) (hop : op = 4 ∨ op = 5 ∨ op = 6) (a0 : -9223372036854775808 ≤ a) (a1 : a ≤ 9223372036854775807) (b0 : -9223372036854775808 ≤ b) (b1 : b ≤ 9223372036854775807) :
    Calls Try.prog 130 #[.int .i64 op, .int .i64 a, .int .i64 b] w fun e w' => e = .returned (.int .i64 (ofB fun i => bop op (tb a i) (tb b i))) ∧ Ext w w' := by
  rcases hop with rfl | rfl | rfl
  all_goals
    generalize hF : (fun i => bop _ (tb a i) (tb b i)) = F
    have HF := Lib.hid hF
    clear hF
    go_enter Try.func130, Try.ntmps130
    go_wp2_with fail
    refine (bits_c a _ a0 a1).mono ?_
    rintro e w1 ⟨rfl, hx1⟩
    go_wp2_with ((with_reducible refine store_new (arr (tb a)) ?_ ?_ ?_ ?_ ?_ ?_); rfl; rfl; (simp [arr_size]); (rw [arr_size]; exact info64); exact arr_one _)
    refine (bits_c b _ b0 b1).mono ?_
    rintro e w2 ⟨rfl, hx2⟩
    go_wp2_with ((with_reducible refine store_new (arr (tb b)) ?_ ?_ ?_ ?_ ?_ ?_); rfl; rfl; (simp [arr_size]); (rw [arr_size]; exact info64); exact arr_one _)
    rw [← arr_zero]
    go_loopw [10] (fun i wr => ∃ k : Nat, k ≤ 64 ∧ i = .int .i64 k ∧ Ext w wr ∧ Blk wr w1.heap.size 165 (arr (tb a)) ∧ Blk wr w2.heap.size 165 (arr (tb b)) ∧ Blk wr (w2.heap.size + 1) 165 (arr (fillTo F k))) (fun i _ => 64 - (intOf i).toNat)
    case atStart =>
      refine ⟨0, by omega, rfl, ?_, ?_, ?_, ?_⟩
      · exact ((((Ext.trans hx1 ((Ext.refl _).alloc _)).trans hx2).alloc _).alloc _)
      · exact (((Blk.new _ _ _).ext hx2).alloc _).alloc _
      · exact (Blk.new _ _ _).alloc _
      · rw [fillTo_zero]; have := Blk.new (w2.alloc (.cells (arr (tb b)) 165)) 165 (arr fun _ => false); simpa using this
    case round =>
      obtain ⟨k, hk, rfl, hx, hA, hB, hZ⟩ := hrel
      have hs1 := hx1.size
      have hs2 := hx2.size
      simp only [World.size_alloc] at hs2
      by_cases hlt : k < 64
      · have cA : wr.cell? ⟨w1.heap.size, k, none⟩ = some (.bool (tb a k)) := by rw [hA.cell, arr_get _ _ hlt]
        have cB : wr.cell? ⟨w2.heap.size, k, none⟩ = some (.bool (tb b k)) := by rw [hB.cell, arr_get _ _ hlt]
        have cZ : wr.cell? ⟨w2.heap.size + 1, k, none⟩ = some (.bool (fillTo F k k)) := by rw [hZ.cell, arr_get _ _ hlt]
        have fZ := hZ.frozen k
        have Hn : Hid (∀ v : Bool, v = F k → Ext w (wr.setCell ⟨w2.heap.size + 1, k, none⟩ (.bool v)) ∧ Blk (wr.setCell ⟨w2.heap.size + 1, k, none⟩ (.bool v)) w1.heap.size 165 (arr (tb a)) ∧ Blk (wr.setCell ⟨w2.heap.size + 1, k, none⟩ (.bool v)) w2.heap.size 165 (arr (tb b)) ∧ Blk (wr.setCell ⟨w2.heap.size + 1, k, none⟩ (.bool v)) (w2.heap.size + 1) 165 (arr (fillTo F (k + 1)))) := by
          intro v hv
          refine ⟨hx.setCell (by simp; omega) _, hA.far (by simp; omega) _, hB.far (by simp) _, ?_⟩
          have := hZ.set_ k (.bool v)
          rwa [fillTo_succ F k hlt v hv] at this
        clear hA hB hZ hx hx1 hx2
        have hFk := congrFun HF.out k
        generalize fillTo F k k = old at cZ
        cases hAk : tb a k <;> cases hBk : tb b k
        all_goals
          rw [hAk, hBk] at hFk
          rw [hAk] at cA
          rw [hBk] at cB
          have HFk := Lib.hid hFk
          clear hFk hAk hBk
          go_wp2
          try go_region
          try go_wp2
          go_roundw
          case rel =>
            have hn := Hn.out _ HFk.out
            first
              | exact ⟨k + 1, by omega, by go_num, hn⟩
              | exact ⟨k + 1, by omega, by go_num, hn.1.drew, hn.2.1.drew, hn.2.2.1.drew, hn.2.2.2.drew⟩
          case measure => simp [intOf]; omega
      · obtain rfl : k = 64 := by omega
        clear hlt
        go_wp2_with (first | ((with_reducible refine load_all hZ ?_ Try.underlying165 ?_ ?_ ?_); rfl; rfl; (rw [arr_size]; exact info64)) | (go_at_call 147; refine (of_c _ _).mono ?_; rintro e w3 ⟨rfl, hx3⟩))
        go_ret
        exact ⟨ret_i (ofB_fill F), hx.trans hx3⟩

set_option maxHeartbeats 1000000 in
theorem below_c (a b : Int) (w : World) (a0 : -9223372036854775808 ≤ a) (a1 : a ≤ 9223372036854775807) (b0 : -9223372036854775808 ≤ b) (b1 : b ≤ 9223372036854775807) :
    Calls Try.prog 101 #[.int .i64 a, .int .i64 b] w fun e w' => e = .returned (.bool (nbelow a b)) ∧ w = w' := by
  have hn := nbelow_other a0 a1 b0 b1
  have Hn := Lib.hid hn
  clear hn
  by_cases ha : a < 0 <;> by_cases hb : b < 0
  all_goals
    go_enter Try.func101, Try.ntmps101
    go_wp2
    go_ret
    exact ⟨ret_b (by rw [Hn.out]; first | (simp [ha, hb]; done) | (simp; omega)), rfl⟩

set_option maxHeartbeats 2000000 in
theorem shift_c (a s : Int) (w : World) (s0 : -63 ≤ s) (s1 : s ≤ 63) (a0 : -9223372036854775808 ≤ a) (a1 : a ≤ 9223372036854775807) :
    Calls Try.prog 132 #[.int .i64 a, .int .i64 s] w fun e w' => e = .returned (.int .i64 (ofB (mv (tb a) s))) ∧ Ext w w' := by
  go_enter Try.func132, Try.ntmps132
  go_wp2_with fail
  refine (bits_c a _ a0 a1).mono ?_
  rintro e w1 ⟨rfl, hx1⟩
  go_wp2_with ((with_reducible refine store_new (arr (tb a)) ?_ ?_ ?_ ?_ ?_ ?_); rfl; rfl; (simp [arr_size]); (rw [arr_size]; exact info64); exact arr_one _)
  rw [← arr_zero]
  go_loopw [7] (fun i wr => ∃ k : Nat, k ≤ 64 ∧ i = .int .i64 k ∧ Ext w wr ∧ Blk wr w1.heap.size 165 (arr (tb a)) ∧ Blk wr (w1.heap.size + 1) 165 (arr (fillTo (mv (tb a) s) k))) (fun i _ => 64 - (intOf i).toNat)
  case atStart =>
    refine ⟨0, by omega, rfl, ?_, ?_, ?_⟩
    · exact (hx1.alloc _).alloc _
    · exact (Blk.new _ _ _).alloc _
    · rw [fillTo_zero]; have := Blk.new (w1.alloc (.cells (arr (tb a)) 165)) 165 (arr fun _ => false); simpa using this
  case round =>
    obtain ⟨k, hk, rfl, hx, hA, hZ⟩ := hrel
    have hs1 := hx1.size
    by_cases hlt : k < 64
    · have cZ : wr.cell? ⟨w1.heap.size + 1, k, none⟩ = some (.bool (fillTo (mv (tb a) s) k k)) := by rw [hZ.cell, arr_get _ _ hlt]
      have fZ := hZ.frozen k
      have Hn : Hid (∀ v : Bool, v = mv (tb a) s k → Ext w (wr.setCell ⟨w1.heap.size + 1, k, none⟩ (.bool v)) ∧ Blk (wr.setCell ⟨w1.heap.size + 1, k, none⟩ (.bool v)) w1.heap.size 165 (arr (tb a)) ∧ Blk (wr.setCell ⟨w1.heap.size + 1, k, none⟩ (.bool v)) (w1.heap.size + 1) 165 (arr (fillTo (mv (tb a) s) (k + 1)))) := by
        intro v hv
        refine ⟨hx.setCell (by simp; omega) _, hA.far (by simp) _, ?_⟩
        have := hZ.set_ k (.bool v)
        rwa [fillTo_succ _ k hlt v hv] at this
      have Hz : Hid (mv (tb a) s k = false → arr (fillTo (mv (tb a) s) k) = arr (fillTo (mv (tb a) s) (k + 1))) := fun h => arr_congr fun i _ => by
        unfold fillTo
        by_cases e : i = k
        · subst e; simp [h]
        · congr 1; simp; omega
      have HZ := Lib.hid hZ
      generalize fillTo (mv (tb a) s) k k = old at cZ
      by_cases h0 : 0 ≤ (k : Int) - s
      · by_cases h1 : (k : Int) - s < 64
        · obtain ⟨j, hj⟩ := Int.eq_ofNat_of_zero_le h0
          have hjl : j < 64 := by omega
          have cA : wr.cell? ⟨w1.heap.size, j, none⟩ = some (.bool (tb a j)) := by rw [hA.cell, arr_get _ _ hjl]
          have hv : tb a j = mv (tb a) s k := by unfold mv; rw [hj]; simp; omega
          have Hv := Lib.hid hv
          clear hZ hA hx hv
          go_wp2
          go_roundw
          case rel => exact ⟨k + 1, by omega, by go_num, Hn.out _ Hv.out⟩
          case measure => simp [intOf]; omega
        · have hv : mv (tb a) s k = false := by unfold mv; simp; omega
          have Hv := Lib.hid hv
          have Hk : Hid (Ext w wr ∧ Blk wr w1.heap.size 165 (arr (tb a))) := ⟨hx, hA⟩
          clear hZ hA hx hv
          go_wp2
          go_roundw
          case rel => exact ⟨k + 1, by omega, by go_num, Hk.out.1, Hk.out.2, by rw [← Hz.out Hv.out]; exact HZ.out⟩
          case measure => simp [intOf]; omega
      · have hv : mv (tb a) s k = false := by unfold mv; simp; omega
        have Hv := Lib.hid hv
        have Hk : Hid (Ext w wr ∧ Blk wr w1.heap.size 165 (arr (tb a))) := ⟨hx, hA⟩
        clear hZ hA hx hv
        go_wp2
        go_roundw
        case rel => exact ⟨k + 1, by omega, by go_num, Hk.out.1, Hk.out.2, by rw [← Hz.out Hv.out]; exact HZ.out⟩
        case measure => simp [intOf]; omega
    · obtain rfl : k = 64 := by omega
      clear hlt
      go_wp2_with (first | ((with_reducible refine load_all hZ ?_ Try.underlying165 ?_ ?_ ?_); rfl; rfl; (rw [arr_size]; exact info64)) | (go_at_call 147; refine (of_c _ _).mono ?_; rintro e w3 ⟨rfl, hx3⟩))
      go_ret
      exact ⟨ret_i (ofB_fill _), hx.trans hx3⟩
end Go.Proofs.Yteiknefajlocoaa
/- The reference's numbers: dividing; the operations; the conditions: walks. -/
namespace Go.Proofs.Yteiknefajlocoaa
open Go.ChangeShapes Go.WideShapes Go.ChangeAt Go.RowKit

/-- what one round of dividing leaves -/
theorem div_next (a b : Int) (hb : 0 < u64 b) (k : Nat) (hk : k < 64) (t : Int) (ht : t = if tb a k then 1 else 0) :
    (¬ wrap64 (rst (u64 a) (u64 b) (k + 1)) < 0 → (nbelow (wrap64 (2 * rst (u64 a) (u64 b) (k + 1) + t)) b = true ↔ tb (u64 a / u64 b) k = false)) ∧
    (wrap64 (rst (u64 a) (u64 b) (k + 1)) < 0 → tb (u64 a / u64 b) k = true) ∧
    (tb (u64 a / u64 b) k = true → wrap64 (wrap64 (2 * rst (u64 a) (u64 b) (k + 1) + t) - b) = wrap64 (rst (u64 a) (u64 b) k)) ∧
    (tb (u64 a / u64 b) k = false → wrap64 (2 * rst (u64 a) (u64 b) (k + 1) + t) = wrap64 (rst (u64 a) (u64 b) k)) := by
  obtain ⟨h1, h2⟩ := rst_step (u64 a) (u64 b) k (u64_nonneg a) hb
  obtain ⟨r0, r1⟩ := rst_bd (u64 a) (u64 b) (k + 1) hb
  have hbl := u64_lt b
  have htm : t = u64 a / 2 ^ k % 2 := by
    rw [ht, ← tb_u64 a k hk]
    unfold tb
    rcases Int.emod_two_eq (u64 a / 2 ^ k) with h | h <;> simp [h]
  rw [← htm] at h1 h2
  have ht2 : t = 0 ∨ t = 1 := by rw [ht]; split <;> simp
  generalize rst (u64 a) (u64 b) (k + 1) = r at *
  rw [h2, h1, wrap64_sub, wrap64_neg r r0 (by omega)]
  unfold nbelow
  rw [u64_wrap64]
  refine ⟨fun h => ?_, fun h => by simp; omega, fun h => ?_, fun h => ?_⟩
  · rw [Int.emod_eq_of_lt (by omega) (by omega)]; simp
  · rw [if_pos (by simpa using h)]
  · rw [if_neg (by simpa using h)]; congr 1; omega

set_option maxHeartbeats 4000000 in
theorem divide_c (a b : Int) (w : World) (a0 : -9223372036854775808 ≤ a) (a1 : a ≤ 9223372036854775807) (b0 : -9223372036854775808 ≤ b) (b1 : b ≤ 9223372036854775807) (hb : 0 < u64 b) :
    Calls Try.prog 133 #[.int .i64 a, .int .i64 b] w fun e w' => e = .returned (.tuple #[.int .i64 (wrap64 (u64 a / u64 b)), .int .i64 (wrap64 (u64 a % u64 b))]) ∧ Ext w w' := by
  go_enter Try.func133, Try.ntmps133
  go_wp2_with fail
  refine (bits_c a _ a0 a1).mono ?_
  rintro e w1 ⟨rfl, hx1⟩
  go_wp2_with ((with_reducible refine store_new (arr (tb a)) ?_ ?_ ?_ ?_ ?_ ?_); rfl; rfl; (simp [arr_size]); (rw [arr_size]; exact info64); exact arr_one _)
  rw [← arr_zero]
  go_loopw [8, 9] (fun r i wr => ∃ k : Nat, k ≤ 64 ∧ i = .int .i64 ((k : Int) - 1) ∧ r = .int .i64 (wrap64 (rst (u64 a) (u64 b) k)) ∧ Ext w wr ∧ Blk wr w1.heap.size 165 (arr (tb a)) ∧ Blk wr (w1.heap.size + 1) 165 (arr (hiFrom (tb (u64 a / u64 b)) k))) (fun _ i _ => (intOf i + 1).toNat)
  case atStart =>
    refine ⟨64, by omega, rfl, ?_, ?_, ?_, ?_⟩
    · rw [rst_top _ _ (u64_nonneg a) (u64_lt a)]; simp [wrap64]
    · exact (hx1.alloc _).alloc _
    · exact (Blk.new _ _ _).alloc _
    · rw [hiFrom_top]; have := Blk.new (w1.alloc (.cells (arr (tb a)) 165)) 165 (arr fun _ => false); simpa using this
  case round =>
    obtain ⟨k, hk, rfl, rfl, hx, hA, hZ⟩ := hrel
    have hs1 := hx1.size
    cases k with
    | succ k =>
      have hlt : k < 64 := by omega
      have hkk : ((k + 1 : Nat) : Int) - 1 = (k : Int) := by omega
      rw [hkk]
      have cA : wr.cell? ⟨w1.heap.size, k, none⟩ = some (.bool (tb a k)) := by rw [hA.cell, arr_get _ _ hlt]
      have cZ : wr.cell? ⟨w1.heap.size + 1, k, none⟩ = some (.bool (hiFrom (tb (u64 a / u64 b)) (k + 1) k)) := by rw [hZ.cell, arr_get _ _ hlt]
      have fZ := hZ.frozen k
      have Hn : Hid (tb (u64 a / u64 b) k = true → Ext w (wr.setCell ⟨w1.heap.size + 1, k, none⟩ (.bool true)) ∧ Blk (wr.setCell ⟨w1.heap.size + 1, k, none⟩ (.bool true)) w1.heap.size 165 (arr (tb a)) ∧ Blk (wr.setCell ⟨w1.heap.size + 1, k, none⟩ (.bool true)) (w1.heap.size + 1) 165 (arr (hiFrom (tb (u64 a / u64 b)) k))) := by
        intro hv
        refine ⟨hx.setCell (by simp; omega) _, hA.far (by simp) _, ?_⟩
        have := hZ.set_ k (.bool true)
        rwa [hiFrom_yes _ k hlt hv] at this
      have Hm : Hid (tb (u64 a / u64 b) k = false → Ext w wr ∧ Blk wr w1.heap.size 165 (arr (tb a)) ∧ Blk wr (w1.heap.size + 1) 165 (arr (hiFrom (tb (u64 a / u64 b)) k))) := by
        intro hv
        rw [hiFrom_no _ k hv] at hZ
        exact ⟨hx, hA, hZ⟩
      generalize hiFrom (tb (u64 a / u64 b)) (k + 1) k = old at cZ
      have htwo := wrap64_two (rst (u64 a) (u64 b) (k + 1))
      have hone := wrap64_one (2 * rst (u64 a) (u64 b) (k + 1))
      obtain ⟨n1, n2, n3, n4⟩ := div_next a b hb k hlt (if tb a k then 1 else 0) rfl
      clear hA hZ hx
      cases hbit : tb a k
      all_goals
        rw [hbit] at cA n1 n3 n4
        simp only [Bool.false_eq_true, if_false, if_true, Int.add_zero] at n1 n3 n4
        by_cases ho : wrap64 (rst (u64 a) (u64 b) (k + 1)) < 0
        · have q1 := n2 ho
          have HR := Lib.hid (n3 q1)
          have Q1 := Lib.hid q1
          clear n1 n2 n3 n4 q1 hbit
          go_wp2
          go_roundw
          case rel => exact ⟨k, by omega, by go_num, by rw [← HR.out], Hn.out Q1.out⟩
          case measure => first | (simp [intOf]; done) | (simp [intOf]; omega)
        · have q1 := n1 ho
          cases hq : tb (u64 a / u64 b) k
          · have HR := Lib.hid (n4 hq)
            have Q1 := Lib.hid hq
            have hnb := q1.2 hq
            clear n1 n2 n3 n4 q1 hbit hq
            go_wp2_with (go_at_call 101; refine (below_c _ b _ (by unfold wrap64; omega) (by unfold wrap64; omega) b0 b1).mono ?_; rintro e w' ⟨rfl, rfl⟩)
            go_roundw
            case rel => exact ⟨k, by omega, by go_num, by rw [← HR.out], Hm.out Q1.out⟩
            case measure => first | (simp [intOf]; done) | (simp [intOf]; omega)
          · have HR := Lib.hid (n3 hq)
            have Q1 := Lib.hid hq
            have hnb : nbelow (wrap64 (2 * rst (u64 a) (u64 b) (k + 1) + if tb a k = true then 1 else 0)) b = false := by
              rw [hbit]
              simp only [Bool.false_eq_true, if_false, if_true, Int.add_zero]
              rw [Bool.eq_false_iff]
              intro h
              rw [q1.1 h] at hq
              cases hq
            rw [hbit] at hnb
            simp only [Bool.false_eq_true, if_false, if_true, Int.add_zero] at hnb
            clear n1 n2 n3 n4 q1 hbit hq
            go_wp2_with (go_at_call 101; refine (below_c _ b _ (by unfold wrap64; omega) (by unfold wrap64; omega) b0 b1).mono ?_; rintro e w' ⟨rfl, rfl⟩)
            go_roundw
            case rel => exact ⟨k, by omega, by go_num, by rw [← HR.out], Hn.out Q1.out⟩
            case measure => first | (simp [intOf]; done) | (simp [intOf]; omega)
    | zero =>
      go_wp2_with (first | ((with_reducible refine load_all hZ ?_ Try.underlying165 ?_ ?_ ?_); rfl; rfl; (rw [arr_size]; exact info64)) | (go_at_call 147; refine (of_c _ _).mono ?_; rintro e w3 ⟨rfl, hx3⟩))
      go_ret2
      refine ⟨ret_v ?_, hx.trans hx3⟩
      have e1 : ofB (hiFrom (tb (u64 a / u64 b)) 0) = wrap64 (u64 a / u64 b) := by
        rw [← ofB_tb]
        exact ofB_congr fun i _ => by simp [hiFrom]
      have e2 : rst (u64 a) (u64 b) 0 = u64 a % u64 b := by unfold rst; simp
      rw [← e1, ← e2]
      rfl

set_option maxHeartbeats 1000000 in
theorem refHolds_c (c a b : Int) (w : World) (a0 : -9223372036854775808 ≤ a) (a1 : a ≤ 9223372036854775807) (b0 : -9223372036854775808 ≤ b) (b1 : b ≤ 9223372036854775807) :
    Calls Try.prog 64 #[.int .i64 c, .int .i64 a, .int .i64 b] w fun e w' => e = .returned (.bool (nholds c a b)) ∧ w = w' := by
  go_enter Try.func64, Try.ntmps64
  go_wp2_with (go_at_call 101; refine (below_c _ b _ a0 a1 b0 b1).mono ?_; rintro e w' ⟨rfl, rfl⟩)
  all_goals go_ret
  all_goals refine ⟨ret_b ?_, rfl⟩
  all_goals (rw [Bool.eq_iff_iff]; simp [nholds, nbelow]; grind)

theorem sh_sum (b : Int) : sumTo (tb b) 6 = (sh b : Int) := by
  rw [sumTo_tb]; unfold sh; omega

theorem u64_zero {b : Int} (b0 : -9223372036854775808 ≤ b) (b1 : b ≤ 9223372036854775807) : u64 b = 0 ↔ b = 0 := by unfold u64; omega

set_option maxHeartbeats 1000000 in
theorem refOp_bits (op a b : Int) (w : World) (hop : op = 4 ∨ op = 5 ∨ op = 6) (a0 : -9223372036854775808 ≤ a) (a1 : a ≤ 9223372036854775807) (b0 : -9223372036854775808 ≤ b) (b1 : b ≤ 9223372036854775807) :
    Calls Try.prog 102 #[.int .i64 op, .int .i64 a, .int .i64 b] w fun e w' => e = .returned (.int .i64 (nop op a b)) ∧ Ext w w' := by
  rcases hop with rfl | rfl | rfl
  all_goals
    go_enter Try.func102, Try.ntmps102
    go_wp2_with (go_at_call 130; refine (bitwise_c _ a b _ (by omega) a0 a1 b0 b1).mono ?_; rintro e w' ⟨rfl, hx⟩)
    go_ret
    refine ⟨ret_i ?_, hx⟩
    first | exact bitwise_and a b | exact bitwise_or a b | exact bitwise_xor a b

set_option maxHeartbeats 2000000 in
theorem refOp_div (op a b : Int) (w : World) (hop : op = 9 ∨ op = 10) (a0 : -9223372036854775808 ≤ a) (a1 : a ≤ 9223372036854775807) (b0 : -9223372036854775808 ≤ b) (b1 : b ≤ 9223372036854775807) :
    Calls Try.prog 102 #[.int .i64 op, .int .i64 a, .int .i64 b] w fun e w' => e = .returned (.int .i64 (nop op a b)) ∧ Ext w w' := by
  rcases hop with rfl | rfl
  all_goals
    by_cases hb : b = 0
    · subst hb
      go_enter Try.func102, Try.ntmps102
      go_wp2
      go_ret
      exact ⟨ret_i (by simp [nop, u64]), Ext.refl _⟩
    · have hz : ¬ u64 b = 0 := fun h => hb ((u64_zero b0 b1).1 h)
      have hp : 0 < u64 b := by have := u64_nonneg b; omega
      have Hz := Lib.hid hz
      have hbb : (b == 0) = false := by simpa using hb
      clear hz hb
      go_enter Try.func102, Try.ntmps102
      go_wp2_with (go_at_call 133; refine (divide_c a b _ a0 a1 b0 b1 hp).mono ?_; rintro e w' ⟨rfl, hx⟩)
      go_ret
      refine ⟨ret_i ?_, hx⟩
      have := Hz.out
      simp [nop, this]

set_option maxHeartbeats 2000000 in
theorem refOp_shift (op a b : Int) (w : World) (hop : op = 7 ∨ op = 8) (a0 : -9223372036854775808 ≤ a) (a1 : a ≤ 9223372036854775807) (b0 : -9223372036854775808 ≤ b) (b1 : b ≤ 9223372036854775807) :
    Calls Try.prog 102 #[.int .i64 op, .int .i64 a, .int .i64 b] w fun e w' => e = .returned (.int .i64 (nop op a b)) ∧ Ext w w' := by
  rcases hop with rfl | rfl
  all_goals
    go_enter Try.func102, Try.ntmps102
    go_wp2_with fail
    refine (bits_c b _ b0 b1).mono ?_
    rintro e w1 ⟨rfl, hx1⟩
    go_wp2_with ((with_reducible refine store_new (arr (tb b)) ?_ ?_ ?_ ?_ ?_ ?_); rfl; rfl; (simp [arr_size]); (rw [arr_size]; exact info64); exact arr_one _)
    go_loopw [8, 9, 10] (fun s p i wr => ∃ k : Nat, k ≤ 6 ∧ i = .int .i64 k ∧ s = .int .i64 (sumTo (tb b) k) ∧ p = .int .i64 (2 ^ k) ∧ Ext w wr ∧ Blk wr w1.heap.size 165 (arr (tb b))) (fun _ _ i _ => 6 - (intOf i).toNat)
    case atStart => exact ⟨0, by omega, rfl, by simp [sumTo], by simp, hx1.alloc _, Blk.new _ _ _⟩
    case round =>
      obtain ⟨k, hk, rfl, rfl, rfl, hx, hA⟩ := hrel
      by_cases hlt : k < 6
      · have cA : wr.cell? ⟨w1.heap.size, k, none⟩ = some (.bool (tb b k)) := by rw [hA.cell, arr_get _ _ (by omega)]
        have hp0 := pow_pos' k
        have hp1 : (2 : Int) ^ k ≤ 32 := by
          have : k = 0 ∨ k = 1 ∨ k = 2 ∨ k = 3 ∨ k = 4 ∨ k = 5 := by omega
          rcases this with rfl | rfl | rfl | rfl | rfl | rfl <;> decide
        have hs0 : 0 ≤ sumTo (tb b) k := by rw [sumTo_tb]; exact Int.emod_nonneg _ (by omega)
        have hs1 : sumTo (tb b) k < 2 ^ k := by rw [sumTo_tb]; exact Int.emod_lt_of_pos _ hp0
        have Hp : Hid ((2 : Int) ^ k + 2 ^ k = 2 ^ (k + 1)) := by show _ = _; rw [Int.pow_succ]; omega
        have Hk : Hid (Ext w wr ∧ Blk wr w1.heap.size 165 (arr (tb b))) := ⟨hx, hA⟩
        have Hs : Hid (sumTo (tb b) (k + 1) = sumTo (tb b) k + if tb b k then 2 ^ k else 0) := rfl
        clear hx hA hx1
        generalize (2 : Int) ^ k = p at *
        generalize sumTo (tb b) k = s at *
        cases hbit : tb b k
        all_goals
          rw [hbit] at cA Hs
          clear hbit
          go_wp2
          go_roundw
          case rel => exact ⟨k + 1, by omega, by go_num, by rw [Hs.out]; simp, by rw [Hp.out], Hk.out.1, Hk.out.2⟩
          case measure => first | (simp [intOf]; done) | (simp [intOf]; omega)
      · obtain rfl : k = 6 := by omega
        have hs := sh_sum b
        have hl := sh_lt b
        clear hlt hk
        rw [hs]
        clear hs
        go_wp2_with (go_at_call 132; refine (shift_c a _ _ (by omega) (by omega) a0 a1).mono ?_; rintro e w3 ⟨rfl, hx3⟩)
        go_ret
        refine ⟨ret_i ?_, hx.trans hx3⟩
        first | exact shl_is a (sh b) hl | exact shr_is a (sh b) hl

set_option maxHeartbeats 2000000 in
theorem refOp_c (op a b : Int) (w : World) (a0 : -9223372036854775808 ≤ a) (a1 : a ≤ 9223372036854775807) (b0 : -9223372036854775808 ≤ b) (b1 : b ≤ 9223372036854775807) :
    Calls Try.prog 102 #[.int .i64 op, .int .i64 a, .int .i64 b] w fun e w' => e = .returned (.int .i64 (nop op a b)) ∧ Ext w w' := by
  by_cases h4 : op = 4 ∨ op = 5 ∨ op = 6
  · exact refOp_bits op a b w h4 a0 a1 b0 b1
  by_cases h7 : op = 7 ∨ op = 8
  · exact refOp_shift op a b w h7 a0 a1 b0 b1
  by_cases h9 : op = 9 ∨ op = 10
  · exact refOp_div op a b w h9 a0 a1 b0 b1
  have q4 : (op == 4) = false := by rw [beq_eq_false_iff_ne]; omega
  have q5 : (op == 5) = false := by rw [beq_eq_false_iff_ne]; omega
  have q6 : (op == 6) = false := by rw [beq_eq_false_iff_ne]; omega
  have q7 : (op == 7) = false := by rw [beq_eq_false_iff_ne]; omega
  have q8 : (op == 8) = false := by rw [beq_eq_false_iff_ne]; omega
  have q9 : (op == 9) = false := by rw [beq_eq_false_iff_ne]; omega
  have q10 : (op == 10) = false := by rw [beq_eq_false_iff_ne]; omega
  clear h4 h7 h9
  go_enter Try.func102, Try.ntmps102
  go_wp2
  all_goals go_ret
  all_goals refine ⟨ret_i ?_, Ext.refl _⟩
  all_goals simp_all [nop]
end Go.Proofs.Yteiknefajlocoaa
