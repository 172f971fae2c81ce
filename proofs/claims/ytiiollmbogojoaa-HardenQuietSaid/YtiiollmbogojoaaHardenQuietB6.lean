/- Laid together from: CheckP, Rk. -/
import Derived.Test.YtiiollmbogojoaaHardenQuietB5
import Derived.Test.YtiiollmbogojoaaHardenQuietB3

namespace Go.Proofs.Ytiiollmbogojoaa
open Go.RowKit
set_option linter.unusedSimpArgs false
set_option linter.unusedVariables false
structure LKn where
  bits : Int
  sec : Bool
  deriving DecidableEq, Inhabited
abbrev KSt := List LKn
def kg (s : KSt) (r : Int) : LKn := s.getD r.toNat default
def kset (s : KSt) (r : Int) (k : LKn) : KSt := s.set r.toNat k
def kopK (op : Int) (a b : LKn) : LKn := ⟨kop op (nrm a.bits) (nrm b.bits), a.sec || b.sec⟩
def kjoin (a b : LKn) : LKn := ⟨max (nrm a.bits) (nrm b.bits), a.sec || b.sec⟩
def kless (a b : LKn) : LKn := ⟨min (nrm a.bits) (nrm b.bits), a.sec⟩
def kofK (n : Int) : LKn := ⟨kof n, false⟩
def ksum (k : LKn) (n : Int) : LKn := if n < 0 then ⟨17, k.sec⟩ else kopK 1 k (kofK n)
def kstart : KSt := List.replicate 8 ⟨0, false⟩
def tells1 (c : Int) (holds : Bool) : Bool := (decide (c = 3) && holds) || (decide (c = 4) && !holds) || ((decide (c = 1) && holds) || (decide (c = 2) && !holds))
def tells2 (c : Int) (holds : Bool) : Bool := (decide (c = 3) && !holds) || (decide (c = 4) && holds) || ((decide (c = 1) && holds) || (decide (c = 2) && !holds))
def branchK (s : KSt) (i : LIns) (holds : Bool) : KSt :=
  let a := kg s i.a
  let b := kg s i.b
  let s1 := if tells1 i.c holds then kset s i.a (kless a b) else s
  if tells2 i.c holds then kset s1 i.b (kless b a) else s1
def oneK (p : LProg) (s : KSt) (i : LIns) : KSt :=
  if i.op = 1 then kset s i.a (kofK i.n)
  else if i.op = 2 then kset s i.a (kg s i.b)
  else if i.op = 10 then kset s i.a (ksum (kg s i.b) i.n)
  else if i.op = 3 ∨ i.op = 5 then kset s i.a ⟨17, (regOf p i).secret⟩
  else if i.op = 11 then kset s i.a (kless (kg s i.a) (kofK (i.n - 1)))
  else if i.op = 4 ∨ i.op = 6 ∨ i.op = 12 then s
  else kset s i.a (kopK (i.op - 20) (kg s i.b) (kg s i.c))
def leadsK (p : LProg) (at_ : Nat) (s : KSt) (i : LIns) : List (Nat × KSt) :=
  if i.op = 7 then [(i.n.toNat, s)]
  else if i.op = 9 then []
  else if i.op = 8 then [(at_ + 1, branchK s i false), (i.n.toNat, branchK s i true)]
  else [(at_ + 1, oneK p s i)]
def Kok (k : LKn) : Prop := 0 ≤ k.bits ∧ k.bits ≤ 17
def Kle (a b : LKn) : Prop := a.bits ≤ b.bits ∧ (a.sec = true → b.sec = true)
structure Sok (s : KSt) : Prop where
  len : s.length = 8
  ok : ∀ r : Nat, Kok (s.getD r default)
def Sle (s t : KSt) : Prop := ∀ r : Nat, Kle (s.getD r default) (t.getD r default)
theorem Kle.refl (a : LKn) : Kle a a := ⟨by omega, id⟩
theorem Kle.trans {a b c : LKn} (h : Kle a b) (k : Kle b c) : Kle a c := ⟨by have := h.1; have := k.1; omega, fun x => k.2 (h.2 x)⟩
theorem Kle.antisymm {a b : LKn} (h : Kle a b) (k : Kle b a) : a = b := by
  obtain ⟨x, y⟩ := a
  obtain ⟨u, v⟩ := b
  obtain ⟨h1, h2⟩ := h
  obtain ⟨k1, k2⟩ := k
  simp only at h1 h2 k1 k2
  have e : x = u := by omega
  subst e
  cases y <;> cases v <;> simp_all
theorem Sle.refl (s : KSt) : Sle s s := fun _ => Kle.refl _
theorem Sle.trans {s t u : KSt} (h : Sle s t) (k : Sle t u) : Sle s u := fun r => (h r).trans (k r)
theorem Sle.antisymm {s t : KSt} (hs : s.length = 8) (ht : t.length = 8) (h : Sle s t) (k : Sle t s) : s = t := by
  apply List.ext_getElem (by rw [hs, ht])
  intro r h1 h2
  have := Kle.antisymm (h r) (k r)
  simpa [h1, h2] using this
theorem nrm_ok {k : LKn} (h : Kok k) : nrm k.bits = k.bits := nrm_id h.1 h.2
theorem kok_default : Kok (default : LKn) := ⟨by decide, by decide⟩
theorem kop_bd' (op a b : Int) (a0 : 0 ≤ a) (a1 : a ≤ 17) (b0 : 0 ≤ b) (b1 : b ≤ 17) : 0 ≤ kop op a b ∧ kop op a b ≤ 17 := by
  unfold kop kopN
  split
  · split <;> omega
  repeat' (split <;> try omega)
theorem kopK_ok (op : Int) (a b : LKn) : Kok (kopK op a b) := kop_bd' op _ _ (nrm_bd _).1 (nrm_bd _).2 (nrm_bd _).1 (nrm_bd _).2
theorem kjoin_ok (a b : LKn) : Kok (kjoin a b) := by
  have := nrm_bd a.bits; have := nrm_bd b.bits
  simp only [Kok, kjoin]; omega
theorem kless_ok (a b : LKn) : Kok (kless a b) := by
  have := nrm_bd a.bits; have := nrm_bd b.bits
  simp only [Kok, kless]; omega
theorem kofK_ok (n : Int) : Kok (kofK n) := kof_bd n
theorem ksum_ok (k : LKn) (n : Int) : Kok (ksum k n) := by
  unfold ksum
  split
  · simp [Kok]
  · exact kopK_ok _ _ _
theorem kjoin_le1 {a b : LKn} (ha : Kok a) : Kle a (kjoin a b) := by
  simp only [Kle, kjoin, nrm_ok ha]
  refine ⟨by omega, fun h => by simp [h]⟩
theorem kjoin_le2 {a b : LKn} (hb : Kok b) : Kle b (kjoin a b) := by
  simp only [Kle, kjoin, nrm_ok hb]
  refine ⟨by omega, fun h => by simp [h]⟩
theorem kjoin_least {a b c : LKn} (ha : Kok a) (hb : Kok b) (h : Kle a c) (k : Kle b c) : Kle (kjoin a b) c := by
  obtain ⟨h1, h2⟩ := h
  obtain ⟨k1, k2⟩ := k
  simp only [Kle, kjoin, nrm_ok ha, nrm_ok hb]
  refine ⟨by omega, fun e => ?_⟩
  simp only [Bool.or_eq_true] at e
  rcases e with e | e
  · exact h2 e
  · exact k2 e
theorem kop_mono (op a b c d : Int) (a0 : 0 ≤ a) (b0 : 0 ≤ b) (h : a ≤ c) (k : b ≤ d) : kop op a b ≤ kop op c d := by
  have hn : kopN op a b ≤ kopN op c d := by
    unfold kopN
    by_cases h1 : op = 1
    · rw [if_pos h1, if_pos h1]; split <;> split <;> omega
    rw [if_neg h1, if_neg h1]
    by_cases h3 : op = 3
    · rw [if_pos h3, if_pos h3]; split <;> split <;> omega
    rw [if_neg h3, if_neg h3]
    by_cases h4 : op = 4
    · rw [if_pos h4, if_pos h4]; omega
    rw [if_neg h4, if_neg h4]
    by_cases h5 : op = 5 ∨ op = 6
    · rw [if_pos h5, if_pos h5]; omega
    rw [if_neg h5, if_neg h5]
    by_cases h8 : op = 8 ∨ op = 9 ∨ op = 10
    · rw [if_pos h8, if_pos h8]; omega
    rw [if_neg h8, if_neg h8]
    omega
  unfold kop
  omega
theorem kopK_mono {op : Int} {a b c d : LKn} (ha : Kok a) (hb : Kok b) (hc : Kok c) (hd : Kok d) (h : Kle a c) (k : Kle b d) : Kle (kopK op a b) (kopK op c d) := by
  simp only [Kle, kopK, nrm_ok ha, nrm_ok hb, nrm_ok hc, nrm_ok hd]
  refine ⟨kop_mono op _ _ _ _ ha.1 hb.1 h.1 k.1, fun e => ?_⟩
  simp only [Bool.or_eq_true] at e ⊢
  rcases e with e | e
  · exact .inl (h.2 e)
  · exact .inr (k.2 e)
theorem kless_mono {a b c d : LKn} (ha : Kok a) (hb : Kok b) (hc : Kok c) (hd : Kok d) (h : Kle a c) (k : Kle b d) : Kle (kless a b) (kless c d) := by
  simp only [Kle, kless, nrm_ok ha, nrm_ok hb, nrm_ok hc, nrm_ok hd]
  have := h.1; have := k.1
  exact ⟨by omega, h.2⟩
theorem ksum_mono {a b : LKn} (n : Int) (ha : Kok a) (hb : Kok b) (h : Kle a b) : Kle (ksum a n) (ksum b n) := by
  unfold ksum
  split
  · exact ⟨by simp, h.2⟩
  · exact kopK_mono ha (kofK_ok n) hb (kofK_ok n) h (Kle.refl _)
theorem Sok.kg {s : KSt} (h : Sok s) (r : Int) : Kok (kg s r) := h.ok _
theorem kset_get (s : KSt) (r : Int) (k : LKn) (j : Nat) : (kset s r k).getD j default = if j = r.toNat ∧ j < s.length then k else s.getD j default := by
  unfold kset
  rw [List.getD_eq_getElem?_getD, List.getD_eq_getElem?_getD, List.getElem?_set]
  by_cases h : r.toNat = j
  · subst h
    by_cases h2 : r.toNat < s.length
    · simp [h2]
    · simp [h2]
  · rw [if_neg h, if_neg (by omega)]
theorem Sok.set {s : KSt} (h : Sok s) (r : Int) {k : LKn} (hk : Kok k) : Sok (kset s r k) := by
  refine ⟨by simp [kset, h.len], fun j => ?_⟩
  rw [kset_get]
  split
  · exact hk
  · exact h.ok j
theorem Sle.set {s t : KSt} (hs : s.length = 8) (ht : t.length = 8) (h : Sle s t) (r : Int) {a b : LKn} (k : Kle a b) : Sle (kset s r a) (kset t r b) := fun j => by
  rw [kset_get, kset_get, hs, ht]
  split
  · exact k
  · exact h j
theorem branchK_ok {s : KSt} (h : Sok s) (i : LIns) (b : Bool) : Sok (branchK s i b) := by
  simp only [branchK]
  have h1 : Sok (if tells1 i.c b then kset s i.a (kless (kg s i.a) (kg s i.b)) else s) := by
    split
    · exact h.set _ (kless_ok _ _)
    · exact h
  split
  · exact h1.set _ (kless_ok _ _)
  · exact h1
theorem branchK_mono {s t : KSt} (hs : Sok s) (ht : Sok t) (h : Sle s t) (i : LIns) (b : Bool) : Sle (branchK s i b) (branchK t i b) := by
  simp only [branchK]
  have ka : Kle (kg s i.a) (kg t i.a) := h _
  have kb : Kle (kg s i.b) (kg t i.b) := h _
  have l1 := kless_mono (hs.kg i.a) (hs.kg i.b) (ht.kg i.a) (ht.kg i.b) ka kb
  have l2 := kless_mono (hs.kg i.b) (hs.kg i.a) (ht.kg i.b) (ht.kg i.a) kb ka
  cases tells1 i.c b <;> cases tells2 i.c b <;> simp only [if_true, if_false, Bool.false_eq_true]
  · exact h
  · exact Sle.set hs.len ht.len h _ l2
  · exact Sle.set hs.len ht.len h _ l1
  · exact Sle.set (by simp [kset, hs.len]) (by simp [kset, ht.len]) (Sle.set hs.len ht.len h _ l1) _ l2
theorem oneK_ok (p : LProg) {s : KSt} (h : Sok s) (i : LIns) : Sok (oneK p s i) := by
  unfold oneK
  repeat' split
  · exact h.set _ (kofK_ok _)
  · exact h.set _ (h.kg _)
  · exact h.set _ (ksum_ok _ _)
  · exact h.set _ ⟨by simp, by simp⟩
  · exact h.set _ (kless_ok _ _)
  · exact h
  · exact h.set _ (kopK_ok _ _ _)
theorem oneK_mono (p : LProg) {s t : KSt} (hs : Sok s) (ht : Sok t) (h : Sle s t) (i : LIns) : Sle (oneK p s i) (oneK p t i) := by
  unfold oneK
  repeat' split
  · exact Sle.set hs.len ht.len h _ (Kle.refl _)
  · exact Sle.set hs.len ht.len h _ (h _)
  · exact Sle.set hs.len ht.len h _ (ksum_mono _ (hs.kg _) (ht.kg _) (h _))
  · exact Sle.set hs.len ht.len h _ (Kle.refl _)
  · exact Sle.set hs.len ht.len h _ (kless_mono (hs.kg _) (kofK_ok _) (ht.kg _) (kofK_ok _) (h _) (Kle.refl _))
  · exact h
  · exact Sle.set hs.len ht.len h _ (kopK_mono (hs.kg _) (hs.kg _) (ht.kg _) (ht.kg _) (h _) (h _))
theorem leadsK_ok (p : LProg) (k : Nat) {s : KSt} (h : Sok s) (i : LIns) : ∀ x ∈ leadsK p k s i, Sok x.2 := by
  intro x hx
  unfold leadsK at hx
  repeat' split at hx
  · simp at hx; subst hx; exact h
  · simp at hx
  · simp at hx; rcases hx with rfl | rfl <;> exact branchK_ok h i _
  · simp at hx; subst hx; exact oneK_ok p h i
theorem leadsK_mono (p : LProg) (k : Nat) {s t : KSt} (hs : Sok s) (ht : Sok t) (h : Sle s t) (i : LIns) : ∀ x ∈ leadsK p k s i, ∃ y ∈ leadsK p k t i, x.1 = y.1 ∧ Sle x.2 y.2 := by
  intro x hx
  unfold leadsK at hx ⊢
  split at hx
  · rename_i h7
    rw [if_pos h7]
    simp at hx; subst hx
    exact ⟨(i.n.toNat, t), by simp, rfl, h⟩
  rename_i h7
  rw [if_neg h7]
  split at hx
  · simp at hx
  rename_i h9
  rw [if_neg h9]
  split at hx
  · rename_i h8
    rw [if_pos h8]
    simp at hx
    rcases hx with rfl | rfl
    · exact ⟨(k + 1, branchK t i false), by simp, rfl, branchK_mono hs ht h i _⟩
    · exact ⟨(i.n.toNat, branchK t i true), by simp, rfl, branchK_mono hs ht h i _⟩
  · rename_i h8
    rw [if_neg h8]
    simp at hx; subst hx
    exact ⟨(k + 1, oneK p t i), by simp, rfl, oneK_mono p hs ht h i⟩
abbrev Tab := List (Option KSt)
def tg (T : Tab) (k : Nat) : Option KSt := T.getD k none
structure Tok (p : LProg) (T : Tab) : Prop where
  len : T.length = p.code.length
  ok : ∀ k s, tg T k = some s → Sok s
def insAt (p : LProg) (k : Nat) : LIns := p.code.getD k default
def Led (p : LProg) (T : Tab) (x : Nat × KSt) : Prop := x.1 < p.code.length → ∃ t, tg T x.1 = some t ∧ Sle x.2 t
structure Post (p : LProg) (T : Tab) : Prop where
  tok : Tok p T
  first : ∃ s, tg T 0 = some s ∧ Sle kstart s
  leads : ∀ k s, tg T k = some s → ∀ x ∈ leadsK p k s (insAt p k), Led p T x
def Tle (T U : Tab) : Prop := ∀ k s, tg T k = some s → ∃ t, tg U k = some t ∧ Sle s t
def Under (p : LProg) (T : Tab) : Prop := ∀ U, Post p U → Tle T U
structure Least (p : LProg) (T : Tab) : Prop where
  post : Post p T
  under : Under p T
theorem least_unique {p : LProg} {T U : Tab} (h : Least p T) (k : Least p U) : T = U := by
  have h1 := h.under U k.post
  have h2 := k.under T h.post
  apply List.ext_getElem (by rw [h.post.tok.len, k.post.tok.len])
  intro j hj hj'
  have ea : tg T j = T[j] := by simp [tg, hj]
  have eb : tg U j = U[j] := by simp [tg, hj']
  rw [← ea, ← eb]
  cases ht : tg T j with
  | none =>
    cases hu : tg U j with
    | none => rfl
    | some s =>
      obtain ⟨t, e, _⟩ := h2 j s hu
      rw [ht] at e; cases e
  | some s =>
    obtain ⟨t, e, l1⟩ := h1 j s ht
    obtain ⟨s', e', l2⟩ := h2 j t e
    rw [ht] at e'
    obtain rfl := Option.some.inj e'
    rw [e, Sle.antisymm (h.post.tok.ok j s ht).len (k.post.tok.ok j t e).len l1 l2]
def sjoin (a b : KSt) : KSt := (List.range 8).map fun r => kjoin (a.getD r default) (b.getD r default)
def joinT (T : Tab) (x : Nat × KSt) : Tab :=
  match tg T x.1 with
  | none => T.set x.1 (some x.2)
  | some t => T.set x.1 (some (sjoin x.2 t))
theorem sjoin_get (a b : KSt) (r : Nat) (hr : r < 8) : (sjoin a b).getD r default = kjoin (a.getD r default) (b.getD r default) := by
  simp [sjoin, hr]
theorem sjoin_ok (a b : KSt) : Sok (sjoin a b) := by
  refine ⟨by simp [sjoin], fun r => ?_⟩
  by_cases hr : r < 8
  · rw [sjoin_get a b r hr]; exact kjoin_ok _ _
  · have : (sjoin a b).length ≤ r := by simp [sjoin]; omega
    simp only [List.getD_eq_getElem?_getD, List.getElem?_eq_none this]
    exact kok_default
theorem getD_beyond {s : KSt} (hs : s.length = 8) {r : Nat} (hr : ¬ r < 8) : s.getD r default = default := by
  simp only [List.getD_eq_getElem?_getD, List.getElem?_eq_none (show s.length ≤ r by omega)]
  rfl
theorem sjoin_le1 {a b : KSt} (ha : Sok a) : Sle a (sjoin a b) := fun r => by
  by_cases hr : r < 8
  · rw [sjoin_get a b r hr]; exact kjoin_le1 (ha.ok r)
  · rw [getD_beyond ha.len hr, getD_beyond (sjoin_ok a b).len hr]; exact Kle.refl _
theorem sjoin_le2 {a b : KSt} (hb : Sok b) : Sle b (sjoin a b) := fun r => by
  by_cases hr : r < 8
  · rw [sjoin_get a b r hr]; exact kjoin_le2 (hb.ok r)
  · rw [getD_beyond hb.len hr, getD_beyond (sjoin_ok a b).len hr]; exact Kle.refl _
theorem sjoin_least {a b c : KSt} (ha : Sok a) (hb : Sok b) (hc : Sok c) (h : Sle a c) (k : Sle b c) : Sle (sjoin a b) c := fun r => by
  by_cases hr : r < 8
  · rw [sjoin_get a b r hr]; exact kjoin_least (ha.ok r) (hb.ok r) (h r) (k r)
  · rw [getD_beyond hc.len hr, getD_beyond (sjoin_ok a b).len hr]; exact Kle.refl _
theorem kjoin_comm (a b : LKn) : kjoin a b = kjoin b a := by
  simp only [kjoin, Bool.or_comm, Int.max_comm]
theorem sjoin_comm (a b : KSt) : sjoin a b = sjoin b a := by
  unfold sjoin
  simp only [kjoin_comm]
theorem tg_set (T : Tab) (k j : Nat) (o : Option KSt) : tg (T.set k o) j = if k = j ∧ j < T.length then o else tg T j := by
  unfold tg
  rw [List.getD_eq_getElem?_getD, List.getD_eq_getElem?_getD, List.getElem?_set]
  by_cases h : k = j
  · subst h
    by_cases h2 : k < T.length <;> simp [h2]
  · rw [if_neg h, if_neg (by omega)]
theorem joinT_get {T : Tab} {x : Nat × KSt} (j : Nat) (hx : x.1 < T.length) : tg (joinT T x) j = if j = x.1 then some (match tg T x.1 with | none => x.2 | some t => sjoin x.2 t) else tg T j := by
  unfold joinT
  cases h : tg T x.1 with
  | none =>
    rw [tg_set]
    by_cases e : j = x.1
    · rw [if_pos ⟨e.symm, by omega⟩, if_pos e]
    · rw [if_neg (by omega), if_neg e]
  | some t =>
    rw [tg_set]
    by_cases e : j = x.1
    · rw [if_pos ⟨e.symm, by omega⟩, if_pos e]
    · rw [if_neg (by omega), if_neg e]
theorem joinT_len (T : Tab) (x : Nat × KSt) : (joinT T x).length = T.length := by
  unfold joinT
  split <;> simp
theorem joinT_tok {p : LProg} {T : Tab} (h : Tok p T) {x : Nat × KSt} (hs : Sok x.2) (hx : x.1 < p.code.length) : Tok p (joinT T x) := by
  refine ⟨by rw [joinT_len, h.len], fun k s hk => ?_⟩
  rw [joinT_get k (by rw [h.len]; exact hx)] at hk
  split at hk
  · cases ht : tg T x.1 with
    | none => rw [ht] at hk; simp only [Option.some.injEq] at hk; subst hk; exact hs
    | some t => rw [ht] at hk; simp only [Option.some.injEq] at hk; subst hk; exact sjoin_ok _ _
  · exact h.ok k s hk
theorem joinT_above {p : LProg} {T : Tab} (h : Tok p T) {x : Nat × KSt} (hs : Sok x.2) (hx : x.1 < p.code.length) : Tle T (joinT T x) := by
  intro k s hk
  rw [joinT_get k (by rw [h.len]; exact hx)]
  split
  · rename_i e
    subst e
    rw [hk]
    exact ⟨_, rfl, sjoin_le2 (h.ok _ _ hk)⟩
  · exact ⟨s, hk, Sle.refl s⟩
theorem joinT_led {p : LProg} {T : Tab} (h : Tok p T) {x : Nat × KSt} (hs : Sok x.2) : Led p (joinT T x) x := fun hx => by
  rw [joinT_get x.1 (by rw [h.len]; exact hx), if_pos rfl]
  refine ⟨_, rfl, ?_⟩
  cases ht : tg T x.1 with
  | none => exact Sle.refl _
  | some t => exact sjoin_le1 hs
theorem Tle.trans {T U V : Tab} (h : Tle T U) (k : Tle U V) : Tle T V := fun j s hj => by
  obtain ⟨t, h1, h2⟩ := h j s hj
  obtain ⟨u, k1, k2⟩ := k j t h1
  exact ⟨u, k1, h2.trans k2⟩
theorem Tle.refl (T : Tab) : Tle T T := fun j s hj => ⟨s, hj, Sle.refl s⟩
theorem Led.mono {p : LProg} {T U : Tab} {x : Nat × KSt} (h : Led p T x) (k : Tle T U) : Led p U x := fun hx => by
  obtain ⟨t, h1, h2⟩ := h hx
  obtain ⟨u, k1, k2⟩ := k _ t h1
  exact ⟨u, k1, h2.trans k2⟩
theorem joinT_under {p : LProg} {T : Tab} (h : Tok p T) (hu : Under p T) {k : Nat} {s : KSt} (hk : ∃ s', tg T k = some s' ∧ Sle s s') (hs : Sok s) {x : Nat × KSt} (hx : x ∈ leadsK p k s (insAt p k)) (hn : x.1 < p.code.length) : Under p (joinT T x) := by
  intro U hU j t hj
  rw [joinT_get j (by rw [h.len]; exact hn)] at hj
  split at hj
  · rename_i e
    subst e
    obtain ⟨s', hk', l0⟩ := hk
    obtain ⟨u, hu1, hu2⟩ := hu U hU k s' hk'
    have hsu := l0.trans hu2
    obtain ⟨y, hy, e1, l1⟩ := leadsK_mono p k hs (hU.tok.ok k u hu1) hsu (insAt p k) x hx
    obtain ⟨v, hv1, hv2⟩ := hU.leads k u hu1 y hy (by rw [← e1]; exact hn)
    rw [← e1] at hv1
    refine ⟨v, hv1, ?_⟩
    cases ht : tg T x.1 with
    | none => rw [ht] at hj; simp only [Option.some.injEq] at hj; subst hj; exact l1.trans hv2
    | some t' =>
      rw [ht] at hj
      simp only [Option.some.injEq] at hj
      subst hj
      obtain ⟨w, hw1, hw2⟩ := hu U hU x.1 t' ht
      rw [hv1] at hw1
      obtain rfl := Option.some.inj hw1
      exact sjoin_least (leadsK_ok p k hs _ x hx) (h.ok _ _ ht) (hU.tok.ok _ _ hv1) (l1.trans hv2) hw2
  · exact hu U hU j t hj
def firstT (p : LProg) : Tab := (List.replicate p.code.length none).set 0 (some kstart)
theorem kstart_ok : Sok kstart := by
  refine ⟨rfl, fun r => ?_⟩
  by_cases hr : r < 8
  · have : kstart.getD r default = ⟨0, false⟩ := by
      match r, hr with
      | 0, _ | 1, _ | 2, _ | 3, _ | 4, _ | 5, _ | 6, _ | 7, _ => rfl
    rw [this]; exact ⟨by simp, by simp⟩
  · rw [getD_beyond (s := kstart) rfl hr]; exact kok_default
theorem firstT_get (p : LProg) (hp : 0 < p.code.length) (k : Nat) : tg (firstT p) k = if k = 0 then some kstart else none := by
  unfold firstT
  rw [tg_set]
  by_cases h : k = 0
  · subst h; rw [if_pos ⟨rfl, by simpa using hp⟩, if_pos rfl]
  · rw [if_neg (by omega), if_neg h]
    unfold tg
    rw [List.getD_eq_getElem?_getD]
    by_cases h2 : k < p.code.length <;> simp [h2]
theorem firstT_tok (p : LProg) (hp : 0 < p.code.length) : Tok p (firstT p) := by
  refine ⟨by simp [firstT], fun k s hk => ?_⟩
  rw [firstT_get p hp] at hk
  split at hk
  · simp only [Option.some.injEq] at hk; subst hk; exact kstart_ok
  · cases hk
theorem firstT_under (p : LProg) (hp : 0 < p.code.length) : Under p (firstT p) := by
  intro U hU k s hk
  rw [firstT_get p hp] at hk
  split at hk
  · rename_i h
    simp only [Option.some.injEq] at hk; subst hk; subst h
    exact hU.first
  · cases hk
def lastB (p : LProg) (k : Nat) : Bool := decide (k + 1 = p.code.length)
def boundK (p : LProg) (k : Nat) (s : KSt) (i : LIns) : Bool :=
  if i.op = 7 ∨ i.op = 9 then true
  else if i.op = 3 ∨ i.op = 4 then !lastB p k && decide (0 ≤ i.n) && decide ((ksum (kg s i.b) i.n).bits ≤ (regOf p i).log)
  else !lastB p k
def quietK (p : LProg) (s : KSt) (i : LIns) : Bool :=
  if i.op = 3 then !(kg s i.b).sec
  else if i.op = 4 then !(kg s i.b).sec && (!(kg s i.a).sec || (regOf p i).secret)
  else if i.op = 6 then !(kg s i.a).sec || (regOf p i).secret
  else if i.op = 8 then !(kg s i.a).sec && !(kg s i.b).sec
  else if i.op = 29 ∨ i.op = 30 then !(kg s i.b).sec && !(kg s i.c).sec
  else if i.op = 9 then !(kg s i.a).sec
  else true
def faultFrom (p : LProg) (T : Tab) : Nat → Nat → Int × Nat
  | 0, _ => (0, 0)
  | n + 1, k => match tg T k with
    | none => faultFrom p T n (k + 1)
    | some s => if !boundK p k s (insAt p k) then (4, k) else if !quietK p s (insAt p k) then (5, k) else faultFrom p T n (k + 1)
def faultOf (p : LProg) (T : Tab) : Int × Nat := faultFrom p T p.code.length 0
theorem faultFrom_none {p : LProg} {T : Tab} : ∀ (n k : Nat), (faultFrom p T n k).1 = 0 → ∀ j s, k ≤ j → j < k + n → tg T j = some s → boundK p j s (insAt p j) = true ∧ quietK p s (insAt p j) = true
  | 0, k, h, j, s, h1, h2, hj => by omega
  | n + 1, k, h, j, s, h1, h2, hj => by
    rw [faultFrom] at h
    by_cases e : j = k
    · subst e
      rw [hj] at h
      simp only at h
      split at h
      · simp at h
      · split at h
        · simp at h
        · rename_i b q
          exact ⟨by simpa using b, by simpa using q⟩
    · refine faultFrom_none n (k + 1) ?_ j s (by omega) (by omega) hj
      cases ht : tg T k with
      | none => rw [ht] at h; exact h
      | some t =>
        rw [ht] at h
        simp only at h
        split at h
        · simp at h
        · split at h
          · simp at h
          · exact h
theorem fault_none {p : LProg} {T : Tab} (hl : T.length = p.code.length) (h : (faultOf p T).1 = 0) : ∀ j s, tg T j = some s → boundK p j s (insAt p j) = true ∧ quietK p s (insAt p j) = true := fun j s hj => by
  refine faultFrom_none _ 0 h j s (by omega) ?_ hj
  rcases Nat.lt_or_ge j p.code.length with h1 | h1
  · omega
  · unfold tg at hj
    rw [List.getD_eq_getElem?_getD, List.getElem?_eq_none (by omega)] at hj
    simp at hj
end Go.Proofs.Ytiiollmbogojoaa

namespace Go.Proofs.Ytiiollmbogojoaa
open Go
set_option linter.unusedVariables false
set_option linter.unusedSimpArgs false
def rk (k : LKn) : Nat := k.bits.toNat + (if k.sec = true then 1 else 0)
def rank (s : KSt) : Nat := (s.map rk).sum
def ph (o : Option KSt) : Nat := match o with | none => 145 | some s => 144 - rank s
def phi (T : Tab) : Nat := (T.map ph).sum
def meas (T : Tab) (wk : List Int) : Nat := 3 * phi T + wk.length
theorem rk_le {k : LKn} (h : Kok k) : rk k ≤ 18 := by
  unfold rk
  have h1 := h.1
  have h2 := h.2
  split <;> omega
theorem rk_mono {a b : LKn} (ha : Kok a) (hb : Kok b) (h : Kle a b) : rk a ≤ rk b ∧ (rk a = rk b → a = b) := by
  have a0 := ha.1
  have b0 := hb.1
  obtain ⟨h1, h2⟩ := h
  obtain ⟨ab, sa⟩ := a
  obtain ⟨bb, sb⟩ := b
  simp only at a0 b0 h1 h2
  unfold rk
  cases sa <;> cases sb <;> simp at h2 ⊢ <;> omega
theorem rank_mono : ∀ (s t : KSt), s.length = t.length → (∀ r : Nat, Kok (s.getD r default)) → (∀ r : Nat, Kok (t.getD r default)) → Sle s t → rank s ≤ rank t ∧ (rank s = rank t → s = t)
  | [], [], _, _, _, _ => ⟨Nat.le_refl _, fun _ => rfl⟩
  | [], _ :: _, h, _, _, _ => by simp at h
  | _ :: _, [], h, _, _, _ => by simp at h
  | a :: s, b :: t, h, ha, hb, hl => by
    have i := rank_mono s t (by simpa using h) (fun r => by simpa using ha (r + 1)) (fun r => by simpa using hb (r + 1)) (fun r => by simpa using hl (r + 1))
    have j := rk_mono (a := a) (b := b) (by simpa using ha 0) (by simpa using hb 0) (by simpa using hl 0)
    unfold rank at *
    simp only [List.map_cons, List.sum_cons]
    refine ⟨by omega, fun e => ?_⟩
    rw [j.2 (by omega), i.2 (by omega)]
theorem rank_bd : ∀ (s : KSt), (∀ r : Nat, Kok (s.getD r default)) → rank s ≤ 18 * s.length
  | [], _ => by simp [rank]
  | a :: s, h => by
    have i := rank_bd s (fun r => by simpa using h (r + 1))
    have j := rk_le (k := a) (by simpa using h 0)
    unfold rank at *
    simp only [List.map_cons, List.sum_cons, List.length_cons]
    omega
theorem rank_144 {s : KSt} (h : Sok s) : rank s ≤ 144 := by
  have := rank_bd s h.ok
  rw [h.len] at this
  omega
theorem phi_set : ∀ (T : Tab) (k : Nat) (o : Option KSt), k < T.length → phi (T.set k o) + ph (tg T k) = phi T + ph o
  | [], k, o, h => by simp at h
  | a :: T, 0, o, h => by
    simp only [phi, tg, List.set_cons_zero, List.map_cons, List.sum_cons, List.getD_cons_zero]
    omega
  | a :: T, k + 1, o, h => by
    have := phi_set T k o (by simpa using h)
    simp only [phi, tg, List.set_cons_succ, List.map_cons, List.sum_cons, List.getD_cons_succ] at *
    omega
theorem phi_le : ∀ (T : Tab), phi T ≤ 145 * T.length
  | [] => by simp [phi]
  | a :: T => by
    have i := phi_le T
    have : ph a ≤ 145 := by
      cases a with
      | none => simp [ph]
      | some s => simp only [ph]; omega
    simp only [phi, List.map_cons, List.sum_cons, List.length_cons] at *
    omega
theorem tg_same {T : Tab} {k : Nat} {o : Option KSt} (h : tg T k = o) (hk : k < T.length) : T.set k o = T := by
  subst h
  apply List.ext_getElem (by simp)
  intro j h1 h2
  rw [List.getElem_set]
  split
  · rename_i e; subst e; simp [tg, hk]
  · rfl
end Go.Proofs.Ytiiollmbogojoaa
