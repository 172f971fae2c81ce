/- Laid together from: CheckP, Rk. -/
import Derived.Test.YteiknefajlocoaaLoadQuietB5
import Derived.Test.YteiknefajlocoaaLoadQuietB3

namespace Go.Proofs.Yteiknefajlocoaa
open Go.RowKit
set_option linter.unusedSimpArgs false
set_option linter.unusedVariables false
structure LKn where
 bits : Int
 sec : Bool
 deriving DecidableEq, Inhabited
abbrev KSt := List LKn
def kg (s : KSt) (r : Int) : LKn := s.getD r.toNat default
def kset (s : KSt) (r : Int) (k : LKn) : KSt := s.set r.toNat k
def kopK (op : Int) (a b : LKn) : LKn := ⟨kop op (nrm a.bits) (nrm b.bits), a.sec || b.sec⟩
def Q1s (a b : LKn) : LKn := ⟨max (nrm a.bits) (nrm b.bits), a.sec || b.sec⟩
def Q0n (a b : LKn) : LKn := ⟨min (nrm a.bits) (nrm b.bits), a.sec⟩
def kofK (n : Int) : LKn := ⟨kof n, false⟩
def ksum (k : LKn) (n : Int) : LKn := if n < 0 then ⟨17, k.sec⟩ else kopK 1 k (kofK n)
def Q2z : KSt := List.replicate 8 ⟨0, false⟩
def Q40 (c : Int) (holds : Bool) : Bool := (decide (c = 3) && holds) || (decide (c = 4) && !holds) || ((decide (c = 1) && holds) || (decide (c = 2) && !holds))
def Q4l (c : Int) (holds : Bool) : Bool := (decide (c = 3) && !holds) || (decide (c = 4) && holds) || ((decide (c = 1) && holds) || (decide (c = 2) && !holds))
def Q19 (s : KSt) (i : LIns) (holds : Bool) : KSt :=
 let a := kg s i.a
 let b := kg s i.b
 let s1 := if Q40 i.c holds then kset s i.a (Q0n a b) else s
 if Q4l i.c holds then kset s1 i.b (Q0n b a) else s1
def oneK (p : Q01) (s : KSt) (i : LIns) : KSt :=
 if i.op = 1 then kset s i.a (kofK i.n)
 else if i.op = 2 then kset s i.a (kg s i.b)
 else if i.op = 10 then kset s i.a (ksum (kg s i.b) i.n)
 else if i.op = 3 ∨ i.op = 5 then kset s i.a ⟨17, (Q08 p i).secret⟩
 else if i.op = 11 then kset s i.a (Q0n (kg s i.a) (kofK (i.n - 1)))
 else if i.op = 4 ∨ i.op = 6 ∨ i.op = 12 then s
 else kset s i.a (kopK (i.op - 20) (kg s i.b) (kg s i.c))
def Q0k (p : Q01) (at_ : Nat) (s : KSt) (i : LIns) : List (Nat × KSt) :=
 if i.op = 7 then [(i.n.toNat, s)]
 else if i.op = 9 then []
 else if i.op = 8 then [(at_ + 1, Q19 s i false), (i.n.toNat, Q19 s i true)]
 else [(at_ + 1, oneK p s i)]
def Kok (k : LKn) : Prop := 0 ≤ k.bits ∧ k.bits ≤ 17
def Kle (a b : LKn) : Prop := a.bits ≤ b.bits ∧ (a.sec = true → b.sec = true)
structure Sok (s : KSt) : Prop where
 len : s.length = 8
 ok : ∀ r : Nat, Kok (s.getD r default)
def Sle (s t : KSt) : Prop := ∀ r : Nat, Kle (s.getD r default) (t.getD r default)
theorem Kle.refl (a : LKn) : Kle a a := ⟨by omega, id⟩
theorem Kle.trans {a b c : LKn} (h : Kle a b) (k : Kle b c) : Kle a c := ⟨by have := h.1; have := k.1; omega, fun x => k.2 (h.2 x)⟩
theorem Kle.antisymm {a b : LKn} (h : Kle a b) (k : Kle b a) : a = b := by
 obtain ⟨x, y⟩ := a
 obtain ⟨u, v⟩ := b
 obtain ⟨h1, h2⟩ := h
 obtain ⟨k1, k2⟩ := k
 simp only at h1 h2 k1 k2
 have e : x = u := by omega
 subst e
 cases y <;> cases v <;> simp_all
theorem Sle.refl (s : KSt) : Sle s s := fun _ => Kle.refl _
theorem Sle.trans {s t u : KSt} (h : Sle s t) (k : Sle t u) : Sle s u := fun r => (h r).trans (k r)
theorem Sle.antisymm {s t : KSt} (hs : s.length = 8) (ht : t.length = 8) (h : Sle s t) (k : Sle t s) : s = t := by
 apply List.ext_getElem (by rw [hs, ht])
 intro r h1 h2
 have := Kle.antisymm (h r) (k r)
 simpa [h1, h2] using this
theorem Q4d {k : LKn} (h : Kok k) : nrm k.bits = k.bits := Q9v h.1 h.2
theorem Qg9 : Kok (default : LKn) := ⟨by decide, by decide⟩
theorem kop_bd' (op a b : Int) (a0 : 0 ≤ a) (a1 : a ≤ 17) (b0 : 0 ≤ b) (b1 : b ≤ 17) : 0 ≤ kop op a b ∧ kop op a b ≤ 17 := by
 unfold kop kopN
 split
 ·split <;> omega
 repeat' (split <;> try omega)
theorem Qc4 (op : Int) (a b : LKn) : Kok (kopK op a b) := kop_bd' op _ _ (Q43 _).1 (Q43 _).2 (Q43 _).1 (Q43 _).2
theorem Qpg (a b : LKn) : Kok (Q1s a b) := by
 have := Q43 a.bits; have := Q43 b.bits
 simp only [Kok, Q1s]; omega
theorem Qa3 (a b : LKn) : Kok (Q0n a b) := by
 have := Q43 a.bits; have := Q43 b.bits
 simp only [Kok, Q0n]; omega
theorem Q7t (n : Int) : Kok (kofK n) := Qc5 n
theorem Qc1 (k : LKn) (n : Int) : Kok (ksum k n) := by
 unfold ksum
 split
 ·simp [Kok]
 ·exact Qc4 _ _ _
theorem Qpj {a b : LKn} (ha : Kok a) : Kle a (Q1s a b) := by
 simp only [Kle, Q1s, Q4d ha]
 refine ⟨by omega, fun h => by simp [h]⟩
theorem Qpi {a b : LKn} (hb : Kok b) : Kle b (Q1s a b) := by
 simp only [Kle, Q1s, Q4d hb]
 refine ⟨by omega, fun h => by simp [h]⟩
theorem Qph {a b c : LKn} (ha : Kok a) (hb : Kok b) (h : Kle a c) (k : Kle b c) : Kle (Q1s a b) c := by
 obtain ⟨h1, h2⟩ := h
 obtain ⟨k1, k2⟩ := k
 simp only [Kle, Q1s, Q4d ha, Q4d hb]
 refine ⟨by omega, fun e => ?_⟩
 simp only [Bool.or_eq_true] at e
 rcases e with e | e
 ·exact h2 e
 ·exact k2 e
theorem Qpe (op a b c d : Int) (a0 : 0 ≤ a) (b0 : 0 ≤ b) (h : a ≤ c) (k : b ≤ d) : kop op a b ≤ kop op c d := by
 have hn : kopN op a b ≤ kopN op c d := by
  unfold kopN
  by_cases h1 : op = 1
  ·rw [if_pos h1, if_pos h1]; split <;> split <;> omega
  rw [if_neg h1, if_neg h1]
  by_cases h3 : op = 3
  ·rw [if_pos h3, if_pos h3]; split <;> split <;> omega
  rw [if_neg h3, if_neg h3]
  by_cases h4 : op = 4
  ·rw [if_pos h4, if_pos h4]; omega
  rw [if_neg h4, if_neg h4]
  by_cases h5 : op = 5 ∨ op = 6
  ·rw [if_pos h5, if_pos h5]; omega
  rw [if_neg h5, if_neg h5]
  by_cases h8 : op = 8 ∨ op = 9 ∨ op = 10
  ·rw [if_pos h8, if_pos h8]; omega
  rw [if_neg h8, if_neg h8]
  omega
 unfold kop
 omega
theorem Qg8 {op : Int} {a b c d : LKn} (ha : Kok a) (hb : Kok b) (hc : Kok c) (hd : Kok d) (h : Kle a c) (k : Kle b d) : Kle (kopK op a b) (kopK op c d) := by
 simp only [Kle, kopK, Q4d ha, Q4d hb, Q4d hc, Q4d hd]
 refine ⟨Qpe op _ _ _ _ ha.1 hb.1 h.1 k.1, fun e => ?_⟩
 simp only [Bool.or_eq_true] at e ⊢
 rcases e with e | e
 ·exact .inl (h.2 e)
 ·exact .inr (k.2 e)
theorem Qc7 {a b c d : LKn} (ha : Kok a) (hb : Kok b) (hc : Kok c) (hd : Kok d) (h : Kle a c) (k : Kle b d) : Kle (Q0n a b) (Q0n c d) := by
 simp only [Kle, Q0n, Q4d ha, Q4d hb, Q4d hc, Q4d hd]
 have := h.1; have := k.1
 exact ⟨by omega, h.2⟩
theorem Qpd {a b : LKn} (n : Int) (ha : Kok a) (hb : Kok b) (h : Kle a b) : Kle (ksum a n) (ksum b n) := by
 unfold ksum
 split
 ·exact ⟨by simp, h.2⟩
 ·exact Qg8 ha (Q7t n) hb (Q7t n) h (Kle.refl _)
theorem Sok.kg {s : KSt} (h : Sok s) (r : Int) : Kok (kg s r) := h.ok _
theorem Q62 (s : KSt) (r : Int) (k : LKn) (j : Nat) : (kset s r k).getD j default = if j = r.toNat ∧ j < s.length then k else s.getD j default := by
 unfold kset
 rw [List.getD_eq_getElem?_getD, List.getD_eq_getElem?_getD, List.getElem?_set]
 by_cases h : r.toNat = j
 ·subst h
  by_cases h2 : r.toNat < s.length
  ·simp [h2]
  ·simp [h2]
 ·rw [if_neg h, if_neg (by omega)]
theorem Sok.set {s : KSt} (h : Sok s) (r : Int) {k : LKn} (hk : Kok k) : Sok (kset s r k) := by
 refine ⟨by simp [kset, h.len], fun j => ?_⟩
 rw [Q62]
 split
 ·exact hk
 ·exact h.ok j
theorem Sle.set {s t : KSt} (hs : s.length = 8) (ht : t.length = 8) (h : Sle s t) (r : Int) {a b : LKn} (k : Kle a b) : Sle (kset s r a) (kset t r b) := fun j => by
 rw [Q62, Q62, hs, ht]
 split
 ·exact k
 ·exact h j
theorem Qd1 {s : KSt} (h : Sok s) (i : LIns) (b : Bool) : Sok (Q19 s i b) := by
 simp only [Q19]
 have h1 : Sok (if Q40 i.c b then kset s i.a (Q0n (kg s i.a) (kg s i.b)) else s) := by
  split
  ·exact h.set _ (Qa3 _ _)
  ·exact h
 split
 ·exact h1.set _ (Qa3 _ _)
 ·exact h1
theorem Qhh {s t : KSt} (hs : Sok s) (ht : Sok t) (h : Sle s t) (i : LIns) (b : Bool) : Sle (Q19 s i b) (Q19 t i b) := by
 simp only [Q19]
 have ka : Kle (kg s i.a) (kg t i.a) := h _
 have kb : Kle (kg s i.b) (kg t i.b) := h _
 have l1 := Qc7 (hs.kg i.a) (hs.kg i.b) (ht.kg i.a) (ht.kg i.b) ka kb
 have l2 := Qc7 (hs.kg i.b) (hs.kg i.a) (ht.kg i.b) (ht.kg i.a) kb ka
 cases Q40 i.c b <;> cases Q4l i.c b <;> simp only [if_true, if_false, Bool.false_eq_true]
 ·exact h
 ·exact Sle.set hs.len ht.len h _ l2
 ·exact Sle.set hs.len ht.len h _ l1
 ·exact Sle.set (by simp [kset, hs.len]) (by simp [kset, ht.len]) (Sle.set hs.len ht.len h _ l1) _ l2
theorem Qnp (p : Q01) {s : KSt} (h : Sok s) (i : LIns) : Sok (oneK p s i) := by
 unfold oneK
 repeat' split
 ·exact h.set _ (Q7t _)
 ·exact h.set _ (h.kg _)
 ·exact h.set _ (Qc1 _ _)
 ·exact h.set _ ⟨by simp, by simp⟩
 ·exact h.set _ (Qa3 _ _)
 ·exact h
 ·exact h.set _ (Qc4 _ _ _)
theorem Qnq (p : Q01) {s t : KSt} (hs : Sok s) (ht : Sok t) (h : Sle s t) (i : LIns) : Sle (oneK p s i) (oneK p t i) := by
 unfold oneK
 repeat' split
 ·exact Sle.set hs.len ht.len h _ (Kle.refl _)
 ·exact Sle.set hs.len ht.len h _ (h _)
 ·exact Sle.set hs.len ht.len h _ (Qpd _ (hs.kg _) (ht.kg _) (h _))
 ·exact Sle.set hs.len ht.len h _ (Kle.refl _)
 ·exact Sle.set hs.len ht.len h _ (Qc7 (hs.kg _) (Q7t _) (ht.kg _) (Q7t _) (h _) (Kle.refl _))
 ·exact h
 ·exact Sle.set hs.len ht.len h _ (Qg8 (hs.kg _) (hs.kg _) (ht.kg _) (ht.kg _) (h _) (h _))
theorem Q8r (p : Q01) (k : Nat) {s : KSt} (h : Sok s) (i : LIns) : ∀ x ∈ Q0k p k s i, Sok x.2 := by
 intro x hx
 unfold Q0k at hx
 repeat' split at hx
 ·simp at hx; subst hx; exact h
 ·simp at hx
 ·simp at hx; rcases hx with rfl | rfl <;> exact Qd1 h i _
 ·simp at hx; subst hx; exact Qnp p h i
theorem Qp7 (p : Q01) (k : Nat) {s t : KSt} (hs : Sok s) (ht : Sok t) (h : Sle s t) (i : LIns) : ∀ x ∈ Q0k p k s i, ∃ y ∈ Q0k p k t i, x.1 = y.1 ∧ Sle x.2 y.2 := by
 intro x hx
 unfold Q0k at hx ⊢
 split at hx
 ·rename_i h7
  rw [if_pos h7]
  simp at hx; subst hx
  exact ⟨(i.n.toNat, t), by simp, rfl, h⟩
 rename_i h7
 rw [if_neg h7]
 split at hx
 ·simp at hx
 rename_i h9
 rw [if_neg h9]
 split at hx
 ·rename_i h8
  rw [if_pos h8]
  simp at hx
  rcases hx with rfl | rfl
  ·exact ⟨(k + 1, Q19 t i false), by simp, rfl, Qhh hs ht h i _⟩
  ·exact ⟨(i.n.toNat, Q19 t i true), by simp, rfl, Qhh hs ht h i _⟩
 ·rename_i h8
  rw [if_neg h8]
  simp at hx; subst hx
  exact ⟨(k + 1, oneK p t i), by simp, rfl, Qnq p hs ht h i⟩
abbrev Tab := List (Option KSt)
def tg (T : Tab) (k : Nat) : Option KSt := T.getD k none
structure Tok (p : Q01) (T : Tab) : Prop where
 len : T.length = p.code.length
 ok : ∀ k s, tg T k = some s → Sok s
def Q0d (p : Q01) (k : Nat) : LIns := p.code.getD k default
def Led (p : Q01) (T : Tab) (x : Nat × KSt) : Prop := x.1 < p.code.length → ∃ t, tg T x.1 = some t ∧ Sle x.2 t
structure Post (p : Q01) (T : Tab) : Prop where
 tok : Tok p T
 first : ∃ s, tg T 0 = some s ∧ Sle Q2z s
 leads : ∀ k s, tg T k = some s → ∀ x ∈ Q0k p k s (Q0d p k), Led p T x
def Tle (T U : Tab) : Prop := ∀ k s, tg T k = some s → ∃ t, tg U k = some t ∧ Sle s t
def Q5s (p : Q01) (T : Tab) : Prop := ∀ U, Post p U → Tle T U
structure Q59 (p : Q01) (T : Tab) : Prop where
 post : Post p T
 under : Q5s p T
theorem Qor {p : Q01} {T U : Tab} (h : Q59 p T) (k : Q59 p U) : T = U := by
 have h1 := h.under U k.post
 have h2 := k.under T h.post
 apply List.ext_getElem (by rw [h.post.tok.len, k.post.tok.len])
 intro j hj hj'
 have ea : tg T j = T[j] := by simp [tg, hj]
 have eb : tg U j = U[j] := by simp [tg, hj']
 rw [← ea, ← eb]
 cases ht : tg T j with
 | none =>
  cases hu : tg U j with
  | none => rfl
  | some s =>
   obtain ⟨t, e, _⟩ := h2 j s hu
   rw [ht] at e; cases e
 | some s =>
  obtain ⟨t, e, l1⟩ := h1 j s ht
  obtain ⟨s', e', l2⟩ := h2 j t e
  rw [ht] at e'
  obtain rfl := Option.some.inj e'
  rw [e, Sle.antisymm (h.post.tok.ok j s ht).len (k.post.tok.ok j t e).len l1 l2]
def Q0w (a b : KSt) : KSt := (List.range 8).map fun r => Q1s (a.getD r default) (b.getD r default)
def Q12 (T : Tab) (x : Nat × KSt) : Tab :=
 match tg T x.1 with
 | none => T.set x.1 (some x.2)
 | some t => T.set x.1 (some (Q0w x.2 t))
theorem Q9i (a b : KSt) (r : Nat) (hr : r < 8) : (Q0w a b).getD r default = Q1s (a.getD r default) (b.getD r default) := by
 simp [Q0w, hr]
theorem Q6q (a b : KSt) : Sok (Q0w a b) := by
 refine ⟨by simp [Q0w], fun r => ?_⟩
 by_cases hr : r < 8
 ·rw [Q9i a b r hr]; exact Qpg _ _
 ·have : (Q0w a b).length ≤ r := by simp [Q0w]; omega
  simp only [List.getD_eq_getElem?_getD, List.getElem?_eq_none this]
  exact Qg9
theorem Q77 {s : KSt} (hs : s.length = 8) {r : Nat} (hr : ¬ r < 8) : s.getD r default = default := by
 simp only [List.getD_eq_getElem?_getD, List.getElem?_eq_none (show s.length ≤ r by omega)]
 rfl
theorem Qjd {a b : KSt} (ha : Sok a) : Sle a (Q0w a b) := fun r => by
 by_cases hr : r < 8
 ·rw [Q9i a b r hr]; exact Qpj (ha.ok r)
 ·rw [Q77 ha.len hr, Q77 (Q6q a b).len hr]; exact Kle.refl _
theorem Qay {a b : KSt} (hb : Sok b) : Sle b (Q0w a b) := fun r => by
 by_cases hr : r < 8
 ·rw [Q9i a b r hr]; exact Qpi (hb.ok r)
 ·rw [Q77 hb.len hr, Q77 (Q6q a b).len hr]; exact Kle.refl _
theorem Qjc {a b c : KSt} (ha : Sok a) (hb : Sok b) (hc : Sok c) (h : Sle a c) (k : Sle b c) : Sle (Q0w a b) c := fun r => by
 by_cases hr : r < 8
 ·rw [Q9i a b r hr]; exact Qph (ha.ok r) (hb.ok r) (h r) (k r)
 ·rw [Q77 hc.len hr, Q77 (Q6q a b).len hr]; exact Kle.refl _
theorem Qpk (a b : LKn) : Q1s a b = Q1s b a := by
 simp only [Q1s, Bool.or_comm, Int.max_comm]
theorem Qdx (a b : KSt) : Q0w a b = Q0w b a := by
 unfold Q0w
 simp only [Qpk]
theorem Q69 (T : Tab) (k j : Nat) (o : Option KSt) : tg (T.set k o) j = if k = j ∧ j < T.length then o else tg T j := by
 unfold tg
 rw [List.getD_eq_getElem?_getD, List.getD_eq_getElem?_getD, List.getElem?_set]
 by_cases h : k = j
 ·subst h
  by_cases h2 : k < T.length <;> simp [h2]
 ·rw [if_neg h, if_neg (by omega)]
theorem Q8t {T : Tab} {x : Nat × KSt} (j : Nat) (hx : x.1 < T.length) : tg (Q12 T x) j = if j = x.1 then some (match tg T x.1 with | none => x.2 | some t => Q0w x.2 t) else tg T j := by
 unfold Q12
 cases h : tg T x.1 with
 | none =>
  rw [Q69]
  by_cases e : j = x.1
  ·rw [if_pos ⟨e.symm, by omega⟩, if_pos e]
  ·rw [if_neg (by omega), if_neg e]
 | some t =>
  rw [Q69]
  by_cases e : j = x.1
  ·rw [if_pos ⟨e.symm, by omega⟩, if_pos e]
  ·rw [if_neg (by omega), if_neg e]
theorem Qpq (T : Tab) (x : Nat × KSt) : (Q12 T x).length = T.length := by
 unfold Q12
 split <;> simp
theorem Qgf {p : Q01} {T : Tab} (h : Tok p T) {x : Nat × KSt} (hs : Sok x.2) (hx : x.1 < p.code.length) : Tok p (Q12 T x) := by
 refine ⟨by rw [Qpq, h.len], fun k s hk => ?_⟩
 rw [Q8t k (by rw [h.len]; exact hx)] at hk
 split at hk
 ·cases ht : tg T x.1 with
  | none => rw [ht] at hk; simp only [Option.some.injEq] at hk; subst hk; exact hs
  | some t => rw [ht] at hk; simp only [Option.some.injEq] at hk; subst hk; exact Q6q _ _
 ·exact h.ok k s hk
theorem Qgh {p : Q01} {T : Tab} (h : Tok p T) {x : Nat × KSt} (hs : Sok x.2) (hx : x.1 < p.code.length) : Tle T (Q12 T x) := by
 intro k s hk
 rw [Q8t k (by rw [h.len]; exact hx)]
 split
 ·rename_i e
  subst e
  rw [hk]
  exact ⟨_, rfl, Qay (h.ok _ _ hk)⟩
 ·exact ⟨s, hk, Sle.refl s⟩
theorem Qgg {p : Q01} {T : Tab} (h : Tok p T) {x : Nat × KSt} (hs : Sok x.2) : Led p (Q12 T x) x := fun hx => by
 rw [Q8t x.1 (by rw [h.len]; exact hx), if_pos rfl]
 refine ⟨_, rfl, ?_⟩
 cases ht : tg T x.1 with
 | none => exact Sle.refl _
 | some t => exact Qjd hs
theorem Tle.trans {T U V : Tab} (h : Tle T U) (k : Tle U V) : Tle T V := fun j s hj => by
 obtain ⟨t, h1, h2⟩ := h j s hj
 obtain ⟨u, k1, k2⟩ := k j t h1
 exact ⟨u, k1, h2.trans k2⟩
theorem Tle.refl (T : Tab) : Tle T T := fun j s hj => ⟨s, hj, Sle.refl s⟩
theorem Led.mono {p : Q01} {T U : Tab} {x : Nat × KSt} (h : Led p T x) (k : Tle T U) : Led p U x := fun hx => by
 obtain ⟨t, h1, h2⟩ := h hx
 obtain ⟨u, k1, k2⟩ := k _ t h1
 exact ⟨u, k1, h2.trans k2⟩
theorem Qge {p : Q01} {T : Tab} (h : Tok p T) (hu : Q5s p T) {k : Nat} {s : KSt} (hk : ∃ s', tg T k = some s' ∧ Sle s s') (hs : Sok s) {x : Nat × KSt} (hx : x ∈ Q0k p k s (Q0d p k)) (hn : x.1 < p.code.length) : Q5s p (Q12 T x) := by
 intro U hU j t hj
 rw [Q8t j (by rw [h.len]; exact hn)] at hj
 split at hj
 ·rename_i e
  subst e
  obtain ⟨s', hk', l0⟩ := hk
  obtain ⟨u, hu1, hu2⟩ := hu U hU k s' hk'
  have hsu := l0.trans hu2
  obtain ⟨y, hy, e1, l1⟩ := Qp7 p k hs (hU.tok.ok k u hu1) hsu (Q0d p k) x hx
  obtain ⟨v, hv1, hv2⟩ := hU.leads k u hu1 y hy (by rw [← e1]; exact hn)
  rw [← e1] at hv1
  refine ⟨v, hv1, ?_⟩
  cases ht : tg T x.1 with
  | none => rw [ht] at hj; simp only [Option.some.injEq] at hj; subst hj; exact l1.trans hv2
  | some t' =>
   rw [ht] at hj
   simp only [Option.some.injEq] at hj
   subst hj
   obtain ⟨w, hw1, hw2⟩ := hu U hU x.1 t' ht
   rw [hv1] at hw1
   obtain rfl := Option.some.inj hw1
   exact Qjc (Q8r p k hs _ x hx) (h.ok _ _ ht) (hU.tok.ok _ _ hv1) (l1.trans hv2) hw2
 ·exact hu U hU j t hj
def Q2c (p : Q01) : Tab := (List.replicate p.code.length none).set 0 (some Q2z)
theorem Qg7 : Sok Q2z := by
 refine ⟨rfl, fun r => ?_⟩
 by_cases hr : r < 8
 ·have : Q2z.getD r default = ⟨0, false⟩ := by
   match r, hr with
   | 0, _ | 1, _ | 2, _ | 3, _ | 4, _ | 5, _ | 6, _ | 7, _ => rfl
  rw [this]; exact ⟨by simp, by simp⟩
 ·rw [Q77 (s := Q2z) rfl hr]; exact Qg9
theorem Q7z (p : Q01) (hp : 0 < p.code.length) (k : Nat) : tg (Q2c p) k = if k = 0 then some Q2z else none := by
 unfold Q2c
 rw [Q69]
 by_cases h : k = 0
 ·subst h; rw [if_pos ⟨rfl, by simpa using hp⟩, if_pos rfl]
 ·rw [if_neg (by omega), if_neg h]
  unfold tg
  rw [List.getD_eq_getElem?_getD]
  by_cases h2 : k < p.code.length <;> simp [h2]
theorem Qh1 (p : Q01) (hp : 0 < p.code.length) : Tok p (Q2c p) := by
 refine ⟨by simp [Q2c], fun k s hk => ?_⟩
 rw [Q7z p hp] at hk
 split at hk
 ·simp only [Option.some.injEq] at hk; subst hk; exact Qg7
 ·cases hk
theorem Qh0 (p : Q01) (hp : 0 < p.code.length) : Q5s p (Q2c p) := by
 intro U hU k s hk
 rw [Q7z p hp] at hk
 split at hk
 ·rename_i h
  simp only [Option.some.injEq] at hk; subst hk; subst h
  exact hU.first
 ·cases hk
def Q24 (p : Q01) (k : Nat) : Bool := decide (k + 1 = p.code.length)
def Q17 (p : Q01) (k : Nat) (s : KSt) (i : LIns) : Bool :=
 if i.op = 7 ∨ i.op = 9 then true
 else if i.op = 3 ∨ i.op = 4 then !Q24 p k && decide (0 ≤ i.n) && decide ((ksum (kg s i.b) i.n).bits ≤ (Q08 p i).log)
 else !Q24 p k
def Q0y (p : Q01) (s : KSt) (i : LIns) : Bool :=
 if i.op = 3 then !(kg s i.b).sec
 else if i.op = 4 then !(kg s i.b).sec && (!(kg s i.a).sec || (Q08 p i).secret)
 else if i.op = 6 then !(kg s i.a).sec || (Q08 p i).secret
 else if i.op = 8 then !(kg s i.a).sec && !(kg s i.b).sec
 else if i.op = 29 ∨ i.op = 30 then !(kg s i.b).sec && !(kg s i.c).sec
 else if i.op = 9 then !(kg s i.a).sec
 else true
def Q1p (p : Q01) (T : Tab) : Nat → Nat → Int × Nat
 | 0, _ => (0, 0)
 | n + 1, k => match tg T k with
  | none => Q1p p T n (k + 1)
  | some s => if !Q17 p k s (Q0d p k) then (4, k) else if !Q0y p s (Q0d p k) then (5, k) else Q1p p T n (k + 1)
def Q1u (p : Q01) (T : Tab) : Int × Nat := Q1p p T p.code.length 0
theorem Qh7 {p : Q01} {T : Tab} : ∀ (n k : Nat), (Q1p p T n k).1 = 0 → ∀ j s, k ≤ j → j < k + n → tg T j = some s → Q17 p j s (Q0d p j) = true ∧ Q0y p s (Q0d p j) = true
 | 0, k, h, j, s, h1, h2, hj => by omega
 | n + 1, k, h, j, s, h1, h2, hj => by
  rw [Q1p] at h
  by_cases e : j = k
  ·subst e
   rw [hj] at h
   simp only at h
   split at h
   ·simp at h
   ·split at h
    ·simp at h
    ·rename_i b q
     exact ⟨by simpa using b, by simpa using q⟩
  ·refine Qh7 n (k + 1) ?_ j s (by omega) (by omega) hj
   cases ht : tg T k with
   | none => rw [ht] at h; exact h
   | some t =>
    rw [ht] at h
    simp only at h
    split at h
    ·simp at h
    ·split at h
     ·simp at h
     ·exact h
theorem Qqv {p : Q01} {T : Tab} (hl : T.length = p.code.length) (h : (Q1u p T).1 = 0) : ∀ j s, tg T j = some s → Q17 p j s (Q0d p j) = true ∧ Q0y p s (Q0d p j) = true := fun j s hj => by
 refine Qh7 _ 0 h j s (by omega) ?_ hj
 rcases Nat.lt_or_ge j p.code.length with h1 | h1
 ·omega
 ·unfold tg at hj
  rw [List.getD_eq_getElem?_getD, List.getElem?_eq_none (by omega)] at hj
  simp at hj
end Go.Proofs.Yteiknefajlocoaa

namespace Go.Proofs.Yteiknefajlocoaa
open Go
set_option linter.unusedVariables false
set_option linter.unusedSimpArgs false
def rk (k : LKn) : Nat := k.bits.toNat + (if k.sec = true then 1 else 0)
def rank (s : KSt) : Nat := (s.map rk).sum
def ph (o : Option KSt) : Nat := match o with | none => 145 | some s => 144 - rank s
def phi (T : Tab) : Nat := (T.map ph).sum
def meas (T : Tab) (wk : List Int) : Nat := 3 * phi T + wk.length
theorem Qb6 {k : LKn} (h : Kok k) : rk k ≤ 18 := by
 unfold rk
 have h1 := h.1
 have h2 := h.2
 split <;> omega
theorem Qky {a b : LKn} (ha : Kok a) (hb : Kok b) (h : Kle a b) : rk a ≤ rk b ∧ (rk a = rk b → a = b) := by
 have a0 := ha.1
 have b0 := hb.1
 obtain ⟨h1, h2⟩ := h
 obtain ⟨ab, sa⟩ := a
 obtain ⟨bb, sb⟩ := b
 simp only at a0 b0 h1 h2
 unfold rk
 cases sa <;> cases sb <;> simp at h2 ⊢ <;> omega
theorem Qbc : ∀ (s t : KSt), s.length = t.length → (∀ r : Nat, Kok (s.getD r default)) → (∀ r : Nat, Kok (t.getD r default)) → Sle s t → rank s ≤ rank t ∧ (rank s = rank t → s = t)
 | [], [], _, _, _, _ => ⟨Nat.le_refl _, fun _ => rfl⟩
 | [], _ :: _, h, _, _, _ => by simp at h
 | _ :: _, [], h, _, _, _ => by simp at h
 | a :: s, b :: t, h, ha, hb, hl => by
  have i := Qbc s t (by simpa using h) (fun r => by simpa using ha (r + 1)) (fun r => by simpa using hb (r + 1)) (fun r => by simpa using hl (r + 1))
  have j := Qky (a := a) (b := b) (by simpa using ha 0) (by simpa using hb 0) (by simpa using hl 0)
  unfold rank at *
  simp only [List.map_cons, List.sum_cons]
  refine ⟨by omega, fun e => ?_⟩
  rw [j.2 (by omega), i.2 (by omega)]
theorem Qek : ∀ (s : KSt), (∀ r : Nat, Kok (s.getD r default)) → rank s ≤ 18 * s.length
 | [], _ => by simp [rank]
 | a :: s, h => by
  have i := Qek s (fun r => by simpa using h (r + 1))
  have j := Qb6 (k := a) (by simpa using h 0)
  unfold rank at *
  simp only [List.map_cons, List.sum_cons, List.length_cons]
  omega
theorem Qbd {s : KSt} (h : Sok s) : rank s ≤ 144 := by
 have := Qek s h.ok
 rw [h.len] at this
 omega
theorem Q8m : ∀ (T : Tab) (k : Nat) (o : Option KSt), k < T.length → phi (T.set k o) + ph (tg T k) = phi T + ph o
 | [], k, o, h => by simp at h
 | a :: T, 0, o, h => by
  simp only [phi, tg, List.set_cons_zero, List.map_cons, List.sum_cons, List.getD_cons_zero]
  omega
 | a :: T, k + 1, o, h => by
  have := Q8m T k o (by simpa using h)
  simp only [phi, tg, List.set_cons_succ, List.map_cons, List.sum_cons, List.getD_cons_succ] at *
  omega
theorem Qf1 : ∀ (T : Tab), phi T ≤ 145 * T.length
 | [] => by simp [phi]
 | a :: T => by
  have i := Qf1 T
  have : ph a ≤ 145 := by
   cases a with
   | none => simp [ph]
   | some s => simp only [ph]; omega
  simp only [phi, List.map_cons, List.sum_cons, List.length_cons] at *
  omega
theorem Qar {T : Tab} {k : Nat} {o : Option KSt} (h : tg T k = o) (hk : k < T.length) : T.set k o = T := by
 subst h
 apply List.ext_getElem (by simp)
 intro j h1 h2
 rw [List.getElem_set]
 split
 ·rename_i e; subst e; simp [tg, hk]
 ·rfl
end Go.Proofs.Yteiknefajlocoaa
