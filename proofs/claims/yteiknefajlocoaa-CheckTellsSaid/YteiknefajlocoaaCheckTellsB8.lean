/- Laid together from: CheckL, Ref6P. -/
import Derived.Test.YteiknefajlocoaaCheckTellsB3
import Derived.Test.YteiknefajlocoaaCheckTellsB7
import Derived.Test.YteiknefajlocoaaCheckTellsB4

/- What a check tells is so: no fault, and nothing secret is told. No program in sight. -/
namespace Go.Proofs.Yteiknefajlocoaa
open Go.RowKit
set_option linter.unusedSimpArgs false
set_option linter.unusedVariables false

/-! which words are secret -/
def secAt : List LReg → Nat → Bool
  | [], _ => false
  | r :: l, n => if n < wordsOf r then r.secret else secAt l (n - wordsOf r)
theorem secAt_base : ∀ (l : List LReg) (r x : Nat), r < l.length → x < wordsOf (l.getD r default) → secAt l (((l.take r).map wordsOf).sum + x) = (l.getD r default).secret
  | [], r, x, h, _ => by simp at h
  | a :: l, 0, x, _, h => by
    simp only [List.getD_cons_zero] at h
    simp [secAt, h]
  | a :: l, r + 1, x, h, hx => by
    simp only [List.getD_cons_succ] at hx
    have := secAt_base l r x (by simpa using h) hx
    simp only [List.take_succ_cons, List.map_cons, List.sum_cons, List.getD_cons_succ, secAt]
    rw [if_neg (by omega), show wordsOf a + ((l.take r).map wordsOf).sum + x - wordsOf a = ((l.take r).map wordsOf).sum + x by omega, this]
def secW (p : LProg) (n : Nat) : Bool := secAt p.regs n
/-- two rows of words have the same public ones -/
def Pub (p : LProg) (a b : List Int) : Prop := ∀ n, secW p n = false → a.getD n 0 = b.getD n 0

/-! registers and words are of 64 bits -/
def All64 (l : List Int) : Prop := ∀ n : Nat, R64 (l.getD n 0)
theorem r64_zero : R64 0 := ⟨by omega, by omega⟩
theorem r64_wrap (x : Int) : R64 (wrap64 x) := by unfold R64 wrap64; omega
theorem r64_bits (o : BinOp) (a b : Int) (h : bits o .i64 a b = wrap64 (bits o .i64 a b)) : R64 (bits o .i64 a b) := by rw [h]; exact r64_wrap _
theorem bits_wrapped (a b : Int) : R64 (bits .and .i64 a b) ∧ R64 (bits .or .i64 a b) ∧ R64 (bits .xor .i64 a b) := by
  have e : ∀ x : Int, R64 (IntKind.i64.wrap x) := fun x => by rw [i64_is]; exact r64_wrap x
  exact ⟨e _, e _, e _⟩
theorem r64_nop {op a b : Int} (ha : R64 a) : R64 (nop op a b) := by
  have hb := bits_wrapped a b
  unfold nop
  repeat' split
  all_goals first | exact r64_wrap _ | exact hb.1 | exact hb.2.1 | exact hb.2.2 | exact ha | exact r64_zero
theorem All64.set {l : List Int} (h : All64 l) (k : Nat) {x : Int} (hx : R64 x) : All64 (l.set k x) := fun n => by
  rw [List.getD_eq_getElem?_getD, List.getElem?_set]
  by_cases e : k = n
  · subst e
    by_cases h2 : k < l.length
    · simpa [h2] using hx
    · simpa [h2] using r64_zero
  · rw [if_neg e, ← List.getD_eq_getElem?_getD]; exact h n
theorem set_get (l : List Int) (k : Nat) (x : Int) (n : Nat) : (l.set k x).getD n 0 = if n = k ∧ n < l.length then x else l.getD n 0 := by
  rw [List.getD_eq_getElem?_getD, List.getElem?_set]
  by_cases e : k = n
  · subst e
    by_cases h2 : k < l.length <;> simp [h2]
  · rw [if_neg e, if_neg (by omega), ← List.getD_eq_getElem?_getD]

/-! what is known of registers is so -/
def Sat (s : KSt) (r : List Int) : Prop := ∀ j, j < 8 → khas (s.getD j default).bits (r.getD j 0) = true
theorem Sat.mono {s t : KSt} {r : List Int} (hs : Sok s) (ht : Sok t) (h : Sat s r) (k : Sle s t) : Sat t r := fun j hj => by
  refine khas_mono ?_ (h j hj)
  rw [nrm_ok (hs.ok j), nrm_ok (ht.ok j)]
  exact (k j).1
theorem Sat.set {s : KSt} {r : List Int} (h : Sat s r) (hl : s.length = 8) (hr : r.length = 10) (a : Int) {k : LKn} {v : Int} (hv : khas k.bits v = true) : Sat (kset s a k) (rset r a v) := fun j hj => by
  rw [kset_get, hl]
  unfold rset
  rw [set_get, hr]
  by_cases e : j = a.toNat
  · rw [if_pos ⟨e, hj⟩, if_pos ⟨e, by omega⟩]; exact hv
  · rw [if_neg (by omega), if_neg (by omega)]; exact h j hj
/-- the state alone is turned, of a register that is as it was -/
theorem Sat.know {s : KSt} {r : List Int} (h : Sat s r) (hl : s.length = 8) (a : Int) {k : LKn} (hv : khas k.bits (rg r a) = true) : Sat (kset s a k) r := fun j hj => by
  rw [kset_get, hl]
  by_cases e : j = a.toNat
  · rw [if_pos ⟨e, hj⟩, e]; exact hv
  · rw [if_neg (by omega)]; exact h j hj
theorem okIn_iff {b n : Int} : okIn b n = true ↔ 0 ≤ n ∧ n < b := by simp [okIn]
theorem Sat.at_ {s : KSt} {r : List Int} (h : Sat s r) {a : Int} (ha : okIn 8 a = true) : khas (kg s a).bits (rg r a) = true := by
  rw [okIn_iff] at ha
  exact h a.toNat (by omega)
theorem khas_zero (b : Int) : khas b 0 = true := by
  unfold khas kfit
  simp [Int.pow_pos]
theorem khas_kop {op : Int} {a b : LKn} {x y : Int} (h : khas a.bits x = true) (k : khas b.bits y = true) : khas (kopK op a b).bits (nop op x y) = true := khas_op h k
theorem khas_sum {k : LKn} {x n : Int} (h : khas k.bits x = true) : khas (ksum k n).bits (wrap64 (x + n)) = true := by
  unfold ksum
  split
  · exact khas_17 rfl
  · exact khas_op (op := 1) h (khas_of n)
theorem khas_less' {a b : LKn} {n m : Int} (h : R64 n) (hn : khas a.bits n = true) (hm : khas b.bits m = true) (hb : nbelow m n = false) : khas (kless a b).bits n = true := khas_less h.1 h.2 hn hm hb

/-- the index of a word that is known to be there -/
theorem idx_inside {p : LProg} {s : KSt} {r : List Int} {i : LIns} (h : Sat s r) (hb : okIn 8 i.b = true) (hs : Sok s) (hop : i.op = 3 ∨ i.op = 4) (hn : 0 ≤ i.n) (hk : (ksum (kg s i.b) i.n).bits ≤ (regOf p i).log) (hl : (regOf p i).log ≤ 6) :
    insideB p i (idxOf r i) = true := by
  have e : idxOf r i = wrap64 (rg r i.b + i.n) := by unfold idxOf; rw [if_neg (by omega)]
  have h1 := khas_sum (n := i.n) (h.at_ hb)
  have ok := ksum_ok (kg s i.b) i.n
  rw [e]
  obtain ⟨m, hm⟩ : ∃ m : Nat, (ksum (kg s i.b) i.n).bits = m := ⟨(ksum (kg s i.b) i.n).bits.toNat, by have := ok.1; omega⟩
  rw [khas_iff (m := m) (by rw [nrm_ok ok, hm]) (by omega)] at h1
  have h2 := pow_le m (regOf p i).log.toNat (by omega)
  have h3 : ((wordsOf (regOf p i) : Nat) : Int) = 2 ^ (regOf p i).log.toNat := by unfold wordsOf; rw [Int.natCast_pow]; rfl
  simp only [insideB, Bool.and_eq_true, decide_eq_true_eq]
  rw [h3]
  omega

/-! one run -/
structure Good (p : LProg) (s : KSt) (a : Plc) : Prop where
  regs : a.regs.length = 10
  r64 : All64 a.regs
  sat : Sat s a.regs
  words : a.words.length = total p
  w64 : All64 a.words
  past : a.past.length = total p
  p64 : ∀ n, All64 (a.past.getD n [])
theorem Good.mono {p : LProg} {s t : KSt} {a : Plc} (hs : Sok s) (ht : Sok t) (h : Good p s a) (k : Sle s t) : Good p t a := ⟨h.1, h.2, h.3.mono hs ht k, h.4, h.5, h.6, h.7⟩
theorem Good.goTo {p : LProg} {s : KSt} {a : Plc} (h : Good p s a) (k : Nat) : Good p s { a with at_ := k } := ⟨h.1, h.2, h.3, h.4, h.5, h.6, h.7⟩
/-- what comes of an instruction of registers alone -/
theorem plainR_cases (r : List Int) (i : LIns) (P : List Int → Prop) (h1 : i.op = 1 → P (rset r i.a i.n)) (h2 : i.op = 2 → P (rset r i.a (rg r i.b))) (h10 : i.op = 10 → P (rset r i.a (wrap64 (rg r i.b + i.n))))
    (h11 : i.op = 11 → (rg r i.a < 0 ∨ i.n ≤ rg r i.a → P (rset r i.a 0)) ∧ (0 ≤ rg r i.a ∧ rg r i.a < i.n → P r)) (h12 : i.op = 12 → P r)
    (ho : i.op ≠ 1 → i.op ≠ 2 → i.op ≠ 10 → i.op ≠ 11 → i.op ≠ 12 → P (rset r i.a (nop (i.op - 20) (rg r i.b) (rg r i.c)))) : P (plainR r i) := by
  unfold plainR
  by_cases e1 : i.op = 1
  · rw [if_pos e1]; exact h1 e1
  rw [if_neg e1]
  by_cases e2 : i.op = 2
  · rw [if_pos e2]; exact h2 e2
  rw [if_neg e2]
  by_cases e10 : i.op = 10
  · rw [if_pos e10]; exact h10 e10
  rw [if_neg e10]
  by_cases e11 : i.op = 11
  · rw [if_pos e11]
    split
    · rename_i h; exact (h11 e11).1 h
    · rename_i h; exact (h11 e11).2 (by omega)
  rw [if_neg e11]
  by_cases e12 : i.op = 12
  · rw [if_pos e12]; exact h12 e12
  rw [if_neg e12]
  exact ho e1 e2 e10 e11 e12
theorem rset_len (r : List Int) (a v : Int) : (rset r a v).length = r.length := by simp [rset]
theorem All64.rset {r : List Int} (h : All64 r) (a : Int) {v : Int} (hv : R64 v) : All64 (rset r a v) := h.set _ hv
theorem all64_plain {r : List Int} {i : LIns} (h : All64 r) (hn : R64 i.n) : All64 (plainR r i) :=
  plainR_cases r i All64 (fun _ => h.rset _ hn) (fun _ => h.rset _ (h _)) (fun _ => h.rset _ (r64_wrap _)) (fun _ => ⟨fun _ => h.rset _ r64_zero, fun _ => h⟩) (fun _ => h) (fun _ _ _ _ _ => h.rset _ (r64_nop (h _)))
theorem plain_len (r : List Int) (i : LIns) : (plainR r i).length = r.length :=
  plainR_cases r i (fun r' => r'.length = r.length) (fun _ => rset_len _ _ _) (fun _ => rset_len _ _ _) (fun _ => rset_len _ _ _) (fun _ => ⟨fun _ => rset_len _ _ _, fun _ => rfl⟩) (fun _ => rfl) (fun _ _ _ _ _ => rset_len _ _ _)
/-- which registers an instruction names, of a program that may be -/
theorem ins_regs {p : LProg} {R : Int} {i : LIns} (h : insOk p R i = true) :
    (i.op = 1 → okIn R i.a = true) ∧ (i.op = 2 → okIn R i.a = true ∧ okIn R i.b = true) ∧ (i.op = 10 → okIn R i.a = true ∧ okIn R i.b = true) ∧ (i.op = 3 ∨ i.op = 4 → okIn R i.a = true ∧ okIn R i.b = true) ∧
      (i.op = 5 ∨ i.op = 6 → okIn R i.a = true) ∧ (i.op = 8 → okIn R i.a = true ∧ okIn R i.b = true ∧ 1 ≤ i.c ∧ i.c ≤ 4) ∧ (i.op = 9 → okIn R i.a = true) ∧ (i.op = 11 → okIn R i.a = true ∧ 1 ≤ i.n ∧ i.n ≤ 64) ∧
      (i.op ≠ 1 → i.op ≠ 2 → i.op ≠ 10 → i.op ≠ 3 → i.op ≠ 4 → i.op ≠ 5 → i.op ≠ 6 → i.op ≠ 7 → i.op ≠ 8 → i.op ≠ 9 → i.op ≠ 11 → i.op ≠ 12 → okIn R i.a = true ∧ okIn R i.b = true ∧ okIn R i.c = true ∧ 21 ≤ i.op ∧ i.op ≤ 30) ∧
      (i.op = 7 ∨ i.op = 8 → 0 ≤ i.n ∧ i.n.toNat < p.code.length) ∧ (1 ≤ i.op ∧ i.op ≤ 12 ∨ 21 ≤ i.op ∧ i.op ≤ 30) := by
  simp only [insOk] at h
  by_cases e1 : i.op = 1
  · simp [e1, okIn] at h ⊢; omega
  by_cases e2 : i.op = 2
  · simp [e2, okIn] at h ⊢; omega
  by_cases e10 : i.op = 10
  · simp [e10, okIn] at h ⊢; omega
  by_cases e3 : i.op = 3 ∨ i.op = 4
  · rcases e3 with e3 | e3 <;> simp [e3, okIn] at h ⊢ <;> omega
  by_cases e5 : i.op = 5 ∨ i.op = 6
  · rcases e5 with e5 | e5 <;> simp [e5, okIn] at h ⊢ <;> omega
  by_cases e7 : i.op = 7
  · simp [e7, okIn] at h ⊢; omega
  by_cases e8 : i.op = 8
  · simp [e8, okIn] at h ⊢; omega
  by_cases e9 : i.op = 9
  · simp [e9, okIn] at h ⊢; omega
  by_cases e11 : i.op = 11
  · simp [e11, okIn] at h ⊢; omega
  by_cases e12 : i.op = 12
  · simp [e12, okIn] at h ⊢
  rw [if_neg e1, if_neg e2, if_neg e10, if_neg e3, if_neg e5, if_neg e7, if_neg e8, if_neg e9, if_neg e11, if_neg e12] at h
  simp [okIn] at h
  simp [okIn]
  omega
theorem sat_plain {p : LProg} {s : KSt} {r : List Int} {i : LIns} (hok : insOk p 8 i = true) (hs : Sok s) (hl : r.length = 10) (h64 : All64 r) (h : Sat s r) (hw : isWord i = false) (h7 : i.op ≠ 7) (h8 : i.op ≠ 8) (h9 : i.op ≠ 9) : Sat (oneK p s i) (plainR r i) := by
  obtain ⟨g1, g2, g10, g3, g5, g8, g9, g11, go, g7, gop⟩ := ins_regs hok
  have hw3 : i.op ≠ 3 ∧ i.op ≠ 4 ∧ i.op ≠ 5 ∧ i.op ≠ 6 := by
    simp [isWord, isPut, isTake] at hw; omega
  unfold oneK
  refine plainR_cases r i (fun r' => Sat _ r') (fun e => ?_) (fun e => ?_) (fun e => ?_) (fun e => ?_) (fun e => ?_) (fun n1 n2 n10 n11 n12 => ?_)
  · rw [if_pos e]; exact h.set hs.len hl _ (khas_of _)
  · rw [if_neg (by omega), if_pos e]; exact h.set hs.len hl _ (h.at_ (g2 e).2)
  · rw [if_neg (by omega), if_neg (by omega), if_pos e]; exact h.set hs.len hl _ (khas_sum (h.at_ (g10 e).2))
  · rw [if_neg (by omega), if_neg (by omega), if_neg (by omega), if_neg (by omega), if_pos e]
    refine ⟨fun _ => h.set hs.len hl _ (khas_zero _), fun hin => h.know hs.len _ ?_⟩
    refine khas_less' (h64 _) (h.at_ (g11 e).1) (khas_of (i.n - 1)) ?_
    unfold nbelow
    rw [u64_small (by have := (g11 e).2.1; omega) (by have := (g11 e).2.2; omega), u64_small hin.1 (by have := (g11 e).2.2; omega)]
    simp; omega
  · rw [if_neg (by omega), if_neg (by omega), if_neg (by omega), if_neg (by omega), if_neg (by omega), if_pos (by omega)]; exact h
  · rw [if_neg (by omega), if_neg (by omega), if_neg (by omega), if_neg (by omega), if_neg (by omega), if_neg (by omega)]
    have := go n1 n2 n10 hw3.1 hw3.2.1 hw3.2.2.1 hw3.2.2.2 h7 h8 h9 n11 n12
    exact h.set hs.len hl _ (khas_op (h.at_ this.2.1) (h.at_ this.2.2.1))
theorem nbelow_no {a b : Int} (h : u64 b ≤ u64 a) : nbelow a b = false := by unfold nbelow; simp; omega
/-- behind a test -/
theorem sat_branch {p : LProg} {s : KSt} {r : List Int} {i : LIns} (ha : okIn 8 i.a = true) (hb : okIn 8 i.b = true) (hs : Sok s) (hl : r.length = 10) (h64 : All64 r) (h : Sat s r) : Sat (branchK s i (nholds i.c (rg r i.a) (rg r i.b))) r := by
  have ka := h.at_ ha
  have kb := h.at_ hb
  generalize hc : nholds i.c (rg r i.a) (rg r i.b) = hold
  have t1 : tells1 i.c hold = true → nbelow (rg r i.b) (rg r i.a) = false := by
    intro t
    apply nbelow_no
    subst hc
    simp only [tells1, nholds] at t
    by_cases e1 : i.c = 1
    · simp [e1] at t; rw [t]; omega
    by_cases e2 : i.c = 2
    · simp [e2] at t; rw [t]; omega
    by_cases e3 : i.c = 3
    · simp [e3] at t; omega
    by_cases e4 : i.c = 4
    · simp [e4] at t; omega
    simp [e1, e2, e3, e4] at t
  have t2 : tells2 i.c hold = true → nbelow (rg r i.a) (rg r i.b) = false := by
    intro t
    apply nbelow_no
    subst hc
    simp only [tells2, nholds] at t
    by_cases e1 : i.c = 1
    · simp [e1] at t; rw [t]; omega
    by_cases e2 : i.c = 2
    · simp [e2] at t; rw [t]; omega
    by_cases e3 : i.c = 3
    · simp [e3] at t; omega
    by_cases e4 : i.c = 4
    · simp [e4] at t; omega
    simp [e1, e2, e3, e4] at t
  simp only [branchK]
  have h1 : Sat (if tells1 i.c hold then kset s i.a (kless (kg s i.a) (kg s i.b)) else s) r := by
    split
    · rename_i e
      exact h.know hs.len _ (khas_less' (h64 _) ka kb (t1 e))
    · exact h
  have hl1 : (if tells1 i.c hold then kset s i.a (kless (kg s i.a) (kg s i.b)) else s).length = 8 := by
    split <;> simp [kset, hs.len]
  split
  · rename_i e
    exact h1.know hl1 _ (khas_less' (h64 _) kb ka (t2 e))
  · exact h1
end Go.Proofs.Yteiknefajlocoaa
/- The reference's rounds over all instructions (chapter 6), plainly: what is known in every round; the table is the least at the end. No program in sight. -/
namespace Go.Proofs.Yteiknefajlocoaa
open Go
set_option linter.unusedVariables false
set_option linter.unusedSimpArgs false

/-- where an instruction leads, as the reference lists it -/
def leads6 (p : LProg) (at_ : Nat) (s : KSt) (i : LIns) : List (Nat × KSt) :=
  if i.op = 7 then [(i.n.toNat, s)]
  else if i.op = 9 then []
  else if i.op = 8 then [(i.n.toNat, branchK s i true), (at_ + 1, branchK s i false)]
  else [(at_ + 1, oneK p s i)]
theorem leads6_mem (p : LProg) (at_ : Nat) (s : KSt) (i : LIns) (x : Nat × KSt) : x ∈ leads6 p at_ s i ↔ x ∈ leadsK p at_ s i := by
  unfold leads6 leadsK
  repeat' split
  all_goals simp
  exact Or.comm
theorem leads6_len (p : LProg) (at_ : Nat) (s : KSt) (i : LIns) : (leads6 p at_ s i).length ≤ 2 := by
  unfold leads6
  repeat' split
  all_goals simp
theorem joinT_phi {p : LProg} {T : Tab} (h : Tok p T) {x : Nat × KSt} (hs : Sok x.2) (hx : x.1 < p.code.length) : phi (joinT T x) ≤ phi T ∧ (joinT T x ≠ T → phi (joinT T x) < phi T) := by
  have hxT : x.1 < T.length := by rw [h.len]; exact hx
  unfold joinT
  cases ht : tg T x.1 with
  | none =>
    have := phi_set T x.1 (some x.2) hxT
    rw [ht] at this
    simp only [ph] at this
    simp only
    exact ⟨by omega, fun _ => by omega⟩
  | some t =>
    have hk := h.ok _ _ ht
    have hj := sjoin_ok x.2 t
    have := phi_set T x.1 (some (sjoin x.2 t)) hxT
    rw [ht] at this
    simp only [ph] at this
    have r1 := rank_mono t (sjoin x.2 t) (by rw [hk.len, hj.len]) hk.ok hj.ok (sjoin_le2 hk)
    have r2 := rank_144 hk
    have r3 := rank_144 hj
    simp only
    refine ⟨by omega, fun hne => ?_⟩
    by_cases e : rank t = rank (sjoin x.2 t)
    · exfalso
      apply hne
      rw [← r1.2 e]
      exact tg_same ht hxT
    · omega

/-- what is known in a round, at an instruction -/
structure A6 (p : LProg) (T0 T : Tab) (again : Bool) (at_ : Nat) : Prop where
  tok : Tok p T
  under : Under p T
  first : ∃ s, tg T 0 = some s ∧ Sle kstart s
  less : phi T ≤ phi T0
  still : again = false → T = T0 ∧ ∀ j, j < at_ → ∀ s, tg T j = some s → ∀ x ∈ leadsK p j s (insAt p j), Led p T x
  some_ : again = true → phi T < phi T0
structure K6 (p : LProg) (T0 T : Tab) (again : Bool) (at_ : Nat) (s : KSt) (k : Nat) : Prop where
  a6 : A6 p T0 T again at_
  here : ∃ s', tg T at_ = some s' ∧ Sle s s'
  same : again = false → tg T at_ = some s
  led : again = false → ∀ j, j < k → Led p T ((leads6 p at_ s (insAt p at_)).getD j default)
theorem A6.begin {p : LProg} {T : Tab} (h1 : Tok p T) (h2 : Under p T) (h3 : ∃ s, tg T 0 = some s ∧ Sle kstart s) : A6 p T T false 0 :=
  ⟨h1, h2, h3, Nat.le_refl _, fun _ => ⟨rfl, fun j hj => by omega⟩, fun h => by cases h⟩
theorem A6.skip {p : LProg} {T0 T : Tab} {again : Bool} {at_ : Nat} (h : A6 p T0 T again at_) (hn : tg T at_ = none) : A6 p T0 T again (at_ + 1) :=
  ⟨h.tok, h.under, h.first, h.less, fun e => ⟨(h.still e).1, fun j hj s hs => by
    by_cases hja : j = at_
    · subst hja; rw [hn] at hs; cases hs
    · exact (h.still e).2 j (by omega) s hs⟩, h.some_⟩
theorem K6.begin {p : LProg} {T0 T : Tab} {again : Bool} {at_ : Nat} {s : KSt} (h : A6 p T0 T again at_) (hs : tg T at_ = some s) : K6 p T0 T again at_ s 0 :=
  ⟨h, ⟨s, hs, Sle.refl s⟩, fun _ => hs, fun _ j hj => by omega⟩
theorem K6.beyond {p : LProg} {T0 T : Tab} {again : Bool} {at_ : Nat} {s : KSt} {k : Nat} (h : K6 p T0 T again at_ s k) (hx : p.code.length ≤ ((leads6 p at_ s (insAt p at_)).getD k default).1) : K6 p T0 T again at_ s (k + 1) :=
  ⟨h.a6, h.here, h.same, fun e j hj => by
    by_cases hjk : j = k
    · subst hjk; intro hl; omega
    · exact h.led e j (by omega)⟩
theorem K6.join {p : LProg} {T0 T : Tab} {again : Bool} {at_ : Nat} {s : KSt} {k : Nat} (h : K6 p T0 T again at_ s k) (hs : Sok s) (hk : k < (leads6 p at_ s (insAt p at_)).length) {x : Nat × KSt} (hxe : (leads6 p at_ s (insAt p at_)).getD k default = x) (hx : x.1 < p.code.length) :
    K6 p T0 (joinT T x) (again || decide (joinT T x ≠ T)) at_ s (k + 1) := by
  have hm : x ∈ leadsK p at_ s (insAt p at_) := by
    rw [← leads6_mem, ← hxe]
    simp [hk]
  have hsx := leadsK_ok p at_ hs (insAt p at_) x hm
  have hT := h.a6.tok
  have hup := joinT_above hT hsx hx
  have hph := joinT_phi hT hsx hx
  have hled := joinT_led hT hsx (x := x)
  have hTu := joinT_under hT h.a6.under h.here hs hm hx
  refine ⟨⟨joinT_tok hT hsx hx, hTu, ?_, ?_, fun e => ?_, fun e => ?_⟩, ?_, fun e => ?_, fun e j hj => ?_⟩
  · obtain ⟨t, h1, h2⟩ := h.a6.first
    obtain ⟨u, h3, h4⟩ := hup 0 t h1
    exact ⟨u, h3, h2.trans h4⟩
  · have := h.a6.less
    omega
  · simp only [Bool.or_eq_false_iff, decide_eq_false_iff_not, Decidable.not_not] at e
    rw [e.2]
    exact h.a6.still e.1
  · simp only [Bool.or_eq_true, decide_eq_true_eq] at e
    rcases e with e | e
    · have := h.a6.some_ e
      omega
    · have := h.a6.less
      have := hph.2 e
      omega
  · obtain ⟨t, h1, h2⟩ := h.here
    obtain ⟨u, h3, h4⟩ := hup at_ t h1
    exact ⟨u, h3, h2.trans h4⟩
  · simp only [Bool.or_eq_false_iff, decide_eq_false_iff_not, Decidable.not_not] at e
    rw [e.2]
    exact h.same e.1
  · simp only [Bool.or_eq_false_iff, decide_eq_false_iff_not, Decidable.not_not] at e
    by_cases hjk : j = k
    · subst hjk
      rw [hxe]
      exact hled
    · rw [e.2]
      exact h.led e.1 j (by omega)
theorem K6.end_ {p : LProg} {T0 T : Tab} {again : Bool} {at_ : Nat} {s : KSt} {k : Nat} (h : K6 p T0 T again at_ s k) (hk : (leads6 p at_ s (insAt p at_)).length ≤ k) : A6 p T0 T again (at_ + 1) :=
  ⟨h.a6.tok, h.a6.under, h.a6.first, h.a6.less, fun e => ⟨(h.a6.still e).1, fun j hj t ht x hx => by
    by_cases hja : j = at_
    · subst hja
      rw [h.same e] at ht
      obtain rfl := Option.some.inj ht
      rw [← leads6_mem] at hx
      obtain ⟨n, hn, rfl⟩ := List.getElem_of_mem hx
      have := h.led e n (by omega)
      simpa [hn] using this
    · exact (h.a6.still e).2 j (by omega) t ht x hx⟩, h.a6.some_⟩
/-- a round that turns nothing: the table is the least -/
theorem A6.least {p : LProg} {T0 T : Tab} {at_ : Nat} (h : A6 p T0 T false at_) (hat : p.code.length ≤ at_) : Least p T :=
  ⟨⟨h.tok, h.first, fun j s hs => (h.still rfl).2 j (by
    have := h.tok.len
    rcases Nat.lt_or_ge j at_ with h1 | h1
    · exact h1
    · exfalso
      unfold tg at hs
      rw [List.getD_eq_getElem?_getD, List.getElem?_eq_none (by omega)] at hs
      cases hs) s hs⟩, h.under⟩
end Go.Proofs.Yteiknefajlocoaa
