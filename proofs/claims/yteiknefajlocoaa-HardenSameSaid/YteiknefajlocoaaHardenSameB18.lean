/- Laid together from: Ref6a, R5, FormR, FormR2, FormR3. -/
import Derived.Test.YteiknefajlocoaaHardenSameB16
import Derived.Test.YteiknefajlocoaaHardenSameB9
import Derived.Test.YteiknefajlocoaaHardenSameB7
import Derived.Deep.DeepCutAuto
import Derived.Test.YteiknefajlocoaaHardenSameB14

/- States, leads and tables of the reference (chapter 6) in memory. -/
namespace Go.Proofs.Yteiknefajlocoaa
open Go.ChangeShapes Go.WideShapes Go.ChangeAt Go.RowKit
set_option linter.unusedVariables false
set_option linter.unusedSimpArgs false

/-- eight registers' states in a slice of a block of their own, from block B on -/
def KnAt (w : World) (B : Nat) (v : Value) (s : KSt) : Prop :=
  s.length = 8 ∧ ∃ b cap R, v = .slice (some ⟨b, 0, none⟩) 8 cap ∧ 8 ≤ cap ∧ cap ≤ maxLen ∧ B ≤ b ∧ Blk w b 78 R ∧ ∀ j, j < 16 → R[j]? = (stV s)[j]?
theorem KnAt.ext {w w' : World} {B : Nat} {v : Value} {s : KSt} (h : KnAt w B v s) (hx : Ext w w') : KnAt w' B v s := by
  obtain ⟨h0, b, cap, R, h1, h2, h3, h4, h5, h6⟩ := h
  exact ⟨h0, b, cap, R, h1, h2, h3, h4, h5.ext hx, h6⟩
theorem KnAt.mono {w : World} {B B' : Nat} {v : Value} {s : KSt} (h : KnAt w B v s) (hB : B' ≤ B) : KnAt w B' v s := by
  obtain ⟨h0, b, cap, R, h1, h2, h3, h4, h5, h6⟩ := h
  exact ⟨h0, b, cap, R, h1, h2, h3, by omega, h5, h6⟩
theorem KnAt.own {w : World} {B : Nat} {v : Value} {s : KSt} (hl : s.length = 8) (h : w.ownsRow B 78 2 v 8 (s.flatMap knCells)) : KnAt w B v s := by
  refine ⟨hl, ?_⟩
  obtain ⟨h0, ⟨-, h1⟩ | ⟨g, cap, cur, rfl, h1, h2, h3, h4, h5, h6⟩⟩ := h
  · omega
  · refine ⟨g, cap, cur, rfl, h3, h4, h1, h2, fun j hj => ?_⟩
    unfold stV
    rw [← h6]
    simp only [List.getElem?_toArray]
    rw [List.getElem?_take_of_lt (by omega)]
    simp
theorem KnAt.form {w : World} {B : Nat} {v : Value} {s : KSt} (h : KnAt w B v s) : ∃ b cap, v = .slice (some ⟨b, 0, none⟩) 8 cap ∧ 8 ≤ cap ∧ cap ≤ maxLen ∧ B ≤ b := by
  obtain ⟨h0, b, cap, R, h1, h2, h3, h4, h5, h6⟩ := h
  exact ⟨b, cap, h1, h2, h3, h4⟩
section
variable {w : World} {B b cap : Nat} {s : KSt}
/-- a register's cells -/
theorem KnAt.cell (h : KnAt w B (.slice (some ⟨b, 0, none⟩) 8 cap) s) {a : Int} (ha : okIn 8 a = true) :
    (w.cell? ⟨b, a.toNat * 2, none⟩ = some (.int .i64 (kg s a).bits) ∧ w.frozen? ⟨b, a.toNat * 2, none⟩ = false) ∧ (w.cell? ⟨b, a.toNat * 2 + 1, none⟩ = some (.bool (kg s a).sec) ∧ w.frozen? ⟨b, a.toNat * 2 + 1, none⟩ = false) := by
  obtain ⟨h0, b', cap', R, h1, h2, h3, h4, h5, h6⟩ := h
  simp only [Value.slice.injEq, Option.some.injEq, Addr.mk.injEq, and_true, true_and] at h1
  obtain ⟨rfl, rfl⟩ := h1
  obtain ⟨k0, k1⟩ := okIn_iff.1 ha
  obtain ⟨g1, g2⟩ := stV_get h0 (a := a) (by omega)
  exact ⟨⟨by rw [h5.cell, h6 _ (by omega), g1], h5.frozen _⟩, ⟨by rw [h5.cell, h6 _ (by omega), g2], h5.frozen _⟩⟩
/-- a register put -/
theorem KnAt.put (h : KnAt w B (.slice (some ⟨b, 0, none⟩) 8 cap) s) {a : Int} (ha : okIn 8 a = true) (x : LKn) :
    KnAt ((w.setCell ⟨b, a.toNat * 2, none⟩ (.int .i64 x.bits)).setCell ⟨b, a.toNat * 2 + 1, none⟩ (.bool x.sec)) B (.slice (some ⟨b, 0, none⟩) 8 cap) (kset s a x) := by
  obtain ⟨h0, b', cap', R, h1, h2, h3, h4, h5, h6⟩ := h
  simp only [Value.slice.injEq, Option.some.injEq, Addr.mk.injEq, and_true, true_and] at h1
  obtain ⟨rfl, rfl⟩ := h1
  obtain ⟨k0, k1⟩ := okIn_iff.1 ha
  have hs := stV_size h0
  have hR : 16 ≤ R.size := by
    have := h6 15 (by omega)
    rcases Nat.lt_or_ge 15 R.size with h | h
    · omega
    · rw [Array.getElem?_eq_none h, Array.getElem?_eq_getElem (by omega)] at this
      cases this
  refine ⟨by simpa [kset] using h0, b, cap, _, rfl, h2, h3, h4, (h5.set_ _ _).set_ _ _, fun j hj => ?_⟩
  rw [← stV_set h0 (by omega) x]
  rw [Array.getElem?_setIfInBounds, Array.getElem?_setIfInBounds, Array.getElem?_setIfInBounds, Array.getElem?_setIfInBounds]
  simp only [Array.size_setIfInBounds]
  repeat' split
  all_goals first | rfl | omega | exact h6 j hj
theorem KnAt.far {v : Value} (h : KnAt w B v s) {p : Addr} {t : TypeId} {cs : Array Value} (hp : Blk w p.block t cs) (h1 : t ≠ 78) (u : Value) : KnAt (w.setCell p u) B v s := by
  obtain ⟨h0, b', cap', R, e1, h2, h3, h4, h5, h6⟩ := h
  exact ⟨h0, b', cap', R, e1, h2, h3, h4, h5.far (Blk.ne_ h5 hp (fun e => h1 e.symm)) u, h6⟩
end
theorem index_kn (b cap : Nat) (W : World) (i : Int) (h0 : 0 ≤ i) (h1 : i < 8) :
    (Instr.indexAt 85 (.slice (some ⟨b, 0, none⟩) 8 cap) (.int .i64 i)).run Try.prog W = .ok (.pointer (some ⟨b, i.toNat * 2, none⟩)) W := by
  have hs : (Try.prog.info? 78).map (·.size) = some 2 := by kernel_rfl
  simp [Instr.indexAt, run_underlying Try.underlying85, asIntOf, h0, h1]
  have := addr_add b 0 (i.toNat * 2)
  simpa using this

/-- a list of leads, in blocks from block B on -/
def LeadsAt (w : World) (B : Nat) (v : Value) (l : List (Nat × KSt)) : Prop :=
  ∃ oa cap b, v = .slice oa l.length cap ∧ l.length ≤ cap ∧ cap ≤ maxLen ∧ B ≤ b ∧ (0 < l.length → oa = some ⟨b, 0, none⟩) ∧ ∃ vs : Nat → Value, ∀ k, k < l.length →
    w.cell? ⟨b, k * 3, none⟩ = some (.int .i64 ((l.getD k default).1 : Int)) ∧ w.cell? ⟨b, k * 3 + 1, none⟩ = some (.bool true) ∧ w.cell? ⟨b, k * 3 + 2, none⟩ = some (vs k) ∧ KnAt w B (vs k) (l.getD k default).2
theorem LeadsAt.ext {w w' : World} {B : Nat} {v : Value} {l : List (Nat × KSt)} (h : LeadsAt w B v l) (hx : Ext w w') : LeadsAt w' B v l := by
  obtain ⟨oa, cap, b, h1, h2, h3, hB, h4, vs, h5⟩ := h
  refine ⟨oa, cap, b, h1, h2, h3, hB, h4, vs, fun k hk => ?_⟩
  obtain ⟨e1, e2, e3, e4⟩ := h5 k hk
  exact ⟨hx.kept e1, hx.kept e2, hx.kept e3, e4.ext hx⟩
theorem KnAt.low {w : World} {B : Nat} {v : Value} {s : KSt} (h : KnAt w B v s) {p : Addr} (hp : p.block < B) (u : Value) : KnAt (w.setCell p u) B v s := by
  obtain ⟨h0, b', cap', R, e1, h2, h3, h4, h5, h6⟩ := h
  exact ⟨h0, b', cap', R, e1, h2, h3, h4, h5.far (by omega) u, h6⟩
theorem LeadsAt.low {w : World} {B : Nat} {v : Value} {l : List (Nat × KSt)} (h : LeadsAt w B v l) {p : Addr} (hp : p.block < B) (u : Value) : LeadsAt (w.setCell p u) B v l := by
  obtain ⟨oa, cap, b, h1, h2, h3, hB, h4, vs, h5⟩ := h
  refine ⟨oa, cap, b, h1, h2, h3, hB, h4, vs, fun k hk => ?_⟩
  obtain ⟨e1, e2, e3, e4⟩ := h5 k hk
  have hne : ∀ o : Nat, p ≠ ⟨b, o, none⟩ := fun o e => by rw [e] at hp; simp only at hp; omega
  exact ⟨by rw [World.cell?_setCell_other _ _ _ _ (hne _)]; exact e1, by rw [World.cell?_setCell_other _ _ _ _ (hne _)]; exact e2, by rw [World.cell?_setCell_other _ _ _ _ (hne _)]; exact e3, e4.low hp u⟩
/-- a state that has come, or none, as a value -/
def StAt (w : World) (v : Value) (o : Option KSt) : Prop :=
  match o with
  | none => v = .agg #[.bool false, .slice none 0 0]
  | some s => ∃ x, v = .agg #[.bool true, x] ∧ KnAt w 0 x s
theorem StAt.ext {w w' : World} {v : Value} {o : Option KSt} (h : StAt w v o) (hx : Ext w w') : StAt w' v o := by
  cases o with
  | none => exact h
  | some s =>
    obtain ⟨x, h1, h2⟩ := h
    exact ⟨x, h1, h2.ext hx⟩
/-- the table of states at block ks -/
def TabAt (w : World) (ks n : Nat) (T : Tab) : Prop :=
  ∃ R : Array Value, Blk w ks 87 R ∧ R.size = n * 2 ∧ ∀ j, j < n → match tg T j with
    | none => R[j * 2]? = some (.bool false) ∧ R[j * 2 + 1]? = some (.slice none 0 0)
    | some s => R[j * 2]? = some (.bool true) ∧ ∃ v, R[j * 2 + 1]? = some v ∧ KnAt w 0 v s
theorem TabAt.ext {w w' : World} {ks n : Nat} {T : Tab} (h : TabAt w ks n T) (hx : Ext w w') : TabAt w' ks n T := by
  obtain ⟨R, h1, h2, h3⟩ := h
  refine ⟨R, h1.ext hx, h2, fun j hj => ?_⟩
  have := h3 j hj
  cases ht : tg T j with
  | none => rw [ht] at this; exact this
  | some s =>
    rw [ht] at this
    obtain ⟨e1, v, e2, e3⟩ := this
    exact ⟨e1, v, e2, e3.ext hx⟩
theorem TabAt.put {w : World} {ks n at_ : Nat} {T : Tab} {s : KSt} {v : Value} (h : TabAt w ks n T) (hT : T.length = n) (hat : at_ < n) (hk : KnAt w 0 v s) :
    TabAt ((w.setCell ⟨ks, at_ * 2, none⟩ (.bool true)).setCell ⟨ks, at_ * 2 + 1, none⟩ v) ks n (T.set at_ (some s)) := by
  obtain ⟨R, h1, h2, h3⟩ := h
  have far : ∀ {v' : Value} {u : KSt}, KnAt w 0 v' u → KnAt ((w.setCell ⟨ks, at_ * 2, none⟩ (.bool true)).setCell ⟨ks, at_ * 2 + 1, none⟩ v) 0 v' u := fun hb =>
    (hb.far (p := ⟨ks, at_ * 2, none⟩) h1 (by decide) _).far (p := ⟨ks, at_ * 2 + 1, none⟩) (h1.set_ _ _) (by decide) _
  refine ⟨_, (h1.set_ _ _).set_ _ _, by simpa using h2, fun j hj => ?_⟩
  rw [tg_set]
  by_cases e : at_ = j
  · subst e
    rw [if_pos ⟨rfl, by omega⟩]
    refine ⟨?_, v, ?_, far hk⟩
    · rw [Array.getElem?_setIfInBounds_ne (by omega), Array.getElem?_setIfInBounds_self_of_lt (by omega)]
    · rw [Array.getElem?_setIfInBounds_self_of_lt (by simp; omega)]
  · rw [if_neg (by omega)]
    have := h3 j hj
    cases ht : tg T j with
    | none =>
      rw [ht] at this
      rw [Array.getElem?_setIfInBounds_ne (by omega), Array.getElem?_setIfInBounds_ne (by omega), Array.getElem?_setIfInBounds_ne (by omega), Array.getElem?_setIfInBounds_ne (by omega)]
      exact this
    | some u =>
      rw [ht] at this
      obtain ⟨e1, v', e2, e3⟩ := this
      refine ⟨?_, v', ?_, far e3⟩
      · rw [Array.getElem?_setIfInBounds_ne (by omega), Array.getElem?_setIfInBounds_ne (by omega)]; exact e1
      · rw [Array.getElem?_setIfInBounds_ne (by omega), Array.getElem?_setIfInBounds_ne (by omega)]; exact e2
end Go.Proofs.Yteiknefajlocoaa
/- The reference's read, power, Has, Of, Op, Join, Less of what is known: walks (of Known2, Known3, Known4, for seats without known.Has). -/
namespace Go.Proofs.Yteiknefajlocoaa
open Go.ChangeShapes Go.WideShapes Go.ChangeAt Go.RowKit

theorem nrm_16 (b : Int) : (if b < 0 ∨ 16 < b then 17 else b) = nrm b := by unfold nrm; split <;> split <;> omega

set_option maxHeartbeats 1000000 in
theorem read_c (b : Int) (s : Bool) (w : World) :
    Calls Try.prog 127 #[.agg #[.int .i64 b, .bool s]] w fun e w' => e = .returned (.agg #[.int .i64 (nrm b), .bool s]) ∧ Ext w w' := by
  have Hn := Lib.hid (nrm_16 b)
  by_cases h0 : b < 0
  · go_enter Try.func127, Try.ntmps127
    go_wp2
    exact bodyPost_ret (v := .agg #[.int .i64 17, .bool s]) (by simp [results, Try.results127, go_sem]) rfl ⟨ret_k (by rw [← Hn.out, if_pos (.inl h0)]) rfl, ((Ext.refl _).alloc _).alloc _⟩
  by_cases h1 : 16 < b
  · go_enter Try.func127, Try.ntmps127
    go_wp2
    exact bodyPost_ret (v := .agg #[.int .i64 17, .bool s]) (by simp [results, Try.results127, go_sem]) rfl ⟨ret_k (by rw [← Hn.out, if_pos (.inr h1)]) rfl, ((Ext.refl _).alloc _).alloc _⟩
  have h0' : 0 ≤ b := by omega
  have h1' : b ≤ 16 := by omega
  go_enter Try.func127, Try.ntmps127
  go_wp2
  exact bodyPost_ret (v := .agg #[.int .i64 b, .bool s]) (by simp [results, Try.results127, go_sem]) rfl ⟨ret_k (by rw [← Hn.out, if_neg (by omega)]) rfl, ((Ext.refl _).alloc _).alloc _⟩

set_option maxHeartbeats 1000000 in
theorem power_c (m : Nat) (hm : m ≤ 16) (w : World) :
    Calls Try.prog 146 #[.int .i64 (m : Int)] w fun e w' => e = .returned (.int .i64 (2 ^ m)) ∧ w = w' := by
  go_enter Try.func146, Try.ntmps146
  go_wp2
  go_loop [3, 4] (fun s i => ∃ k : Nat, k ≤ m ∧ i = .int .i64 k ∧ s = .int .i64 (2 ^ k)) (fun _ i => m - (intOf i).toNat)
  case atStart => exact ⟨0, by omega, rfl, rfl⟩
  case round =>
    obtain ⟨k, hk, rfl, rfl⟩ := hrel
    by_cases hlt : k < m
    · have hp0 : (0 : Int) < 2 ^ k := Int.pow_pos (by omega)
      have hp1 : (2 : Int) ^ k ≤ 65536 := pow_le k 16 (by omega)
      have Hp : Hid ((2 : Int) ^ k + 2 ^ k = 2 ^ (k + 1)) := by show _ = _; rw [Int.pow_succ]; omega
      generalize (2 : Int) ^ k = p at *
      go_wp2
      go_round
      case rel => exact ⟨k + 1, by omega, by go_num, by rw [Hp.out]⟩
      case measure => first | (simp [intOf]; done) | (simp [intOf]; omega)
    · obtain rfl : k = m := by omega
      go_wp2
      go_ret
      exact ⟨rfl, rfl⟩

set_option maxHeartbeats 1000000 in
theorem rHas_c (b n : Int) (s : Bool) (w : World) :
    Calls Try.prog 126 #[.agg #[.int .i64 b, .bool s], .int .i64 n] w fun e w' => e = .returned (.bool (khas b n)) ∧ Ext w w' := by
  obtain ⟨b0, b1⟩ := nrm_bd b
  go_enter Try.func126, Try.ntmps126
  go_wp2_with fail
  obtain ⟨p0, p1⟩ := one_new w 78 (.int .i64 b) (.bool s)
  refine (read_c _ _ _).mono ?_
  rintro e w1 ⟨rfl, hx⟩
  have p0 := kept2 hx p0
  have p1 := kept2 hx p1
  have Hr : Hid (khas b n = kfit (nrm b) n) := rfl
  obtain ⟨m, hm⟩ := Int.eq_ofNat_of_zero_le b0
  rw [hm] at b1 Hr ⊢
  clear hm b0
  by_cases h17 : m = 17
  · subst h17
    go_wp2
    go_ret
    refine ⟨ret_b (by rw [Hr.out]; rfl), ?_⟩
    (repeat' first | (with_reducible exact Ext.refl _) | (with_reducible assumption) | (with_reducible refine Ext.drew ?_) | (with_reducible refine Ext.drewN ?_ _) | (with_reducible refine Ext.alloc ?_ _) | (with_reducible refine Ext.setCell ?_ (by first | (simp; done) | (simp; omega) | omega) _) | (with_reducible refine Ext.trans ?_ (by with_reducible assumption)))
  · have hne : ((m : Int) == 17) = false := by rw [beq_eq_false_iff_ne]; omega
    by_cases hn : 0 ≤ n
    · go_wp2_with (go_at_call 146; refine (power_c m (by omega) _).mono ?_; rintro e w' ⟨rfl, rfl⟩)
      all_goals go_ret
      all_goals refine ⟨ret_b ?_, ?_⟩
      all_goals first | (rw [Hr.out]; simp [kfit, hn]; omega) | skip
      all_goals (repeat' first | (with_reducible exact Ext.refl _) | (with_reducible assumption) | (with_reducible refine Ext.drew ?_) | (with_reducible refine Ext.drewN ?_ _) | (with_reducible refine Ext.alloc ?_ _) | (with_reducible refine Ext.setCell ?_ (by first | (simp; done) | (simp; omega) | omega) _) | (with_reducible refine Ext.trans ?_ (by with_reducible assumption)))
    · go_wp2
      all_goals go_ret
      all_goals refine ⟨ret_b ?_, ?_⟩
      all_goals first | (rw [Hr.out]; simp [kfit]; omega) | skip
      all_goals (repeat' first | (with_reducible exact Ext.refl _) | (with_reducible assumption) | (with_reducible refine Ext.drew ?_) | (with_reducible refine Ext.drewN ?_ _) | (with_reducible refine Ext.alloc ?_ _) | (with_reducible refine Ext.setCell ?_ (by first | (simp; done) | (simp; omega) | omega) _) | (with_reducible refine Ext.trans ?_ (by with_reducible assumption)))

/-- three blocks of two cells from block g on -/
def Cells6 (w W : World) (g : Nat) (a0 a1 b0 b1 c0 c1 : Value) : Prop :=
  Ext w W ∧ (W.cell? ⟨g, 0, none⟩ = some a0 ∧ W.frozen? ⟨g, 0, none⟩ = false) ∧ (W.cell? ⟨g, 1, none⟩ = some a1 ∧ W.frozen? ⟨g, 1, none⟩ = false) ∧
    (W.cell? ⟨g + 1, 0, none⟩ = some b0 ∧ W.frozen? ⟨g + 1, 0, none⟩ = false) ∧ (W.cell? ⟨g + 1, 1, none⟩ = some b1 ∧ W.frozen? ⟨g + 1, 1, none⟩ = false) ∧
    (W.cell? ⟨g + 1 + 1, 0, none⟩ = some c0 ∧ W.frozen? ⟨g + 1 + 1, 0, none⟩ = false) ∧ (W.cell? ⟨g + 1 + 1, 1, none⟩ = some c1 ∧ W.frozen? ⟨g + 1 + 1, 1, none⟩ = false)
section
variable {w W W' : World} {g : Nat} {a0 a1 b0 b1 c0 c1 : Value}
theorem cells6_new (w : World) (T : TypeId) (a0 a1 b0 b1 c0 c1 : Value) : ∃ W g, w.heap.size = g ∧ ((w.alloc (.cells #[a0, a1] T)).alloc (.cells #[b0, b1] T)).alloc (.cells #[c0, c1] T) = W ∧ Cells6 w W g a0 a1 b0 b1 c0 c1 := by
  obtain ⟨W, g, h1, h2, h3, h4, h5, h6, h7, h8, h9, _⟩ := three_new w T a0 a1 b0 b1 c0 c1
  exact ⟨W, g, h1, h2, h3, h4, h5, h6, h7, h8, h9⟩
theorem Cells6.ext (h : Cells6 w W g a0 a1 b0 b1 c0 c1) (hx : Ext W W') : Cells6 w W' g a0 a1 b0 b1 c0 c1 :=
  ⟨h.1.trans hx, kept2 hx h.2.1, kept2 hx h.2.2.1, kept2 hx h.2.2.2.1, kept2 hx h.2.2.2.2.1, kept2 hx h.2.2.2.2.2.1, kept2 hx h.2.2.2.2.2.2⟩
theorem Cells6.set01 (h : Cells6 w W g a0 a1 b0 b1 c0 c1) (hg : w.heap.size ≤ g) (x y : Value) : Cells6 w ((W.setCell ⟨g, 0, none⟩ x).setCell ⟨g, 1, none⟩ y) g x y b0 b1 c0 c1 :=
  ⟨(h.1.setCell hg _).setCell hg _, kept_set (by simp) (set_same h.2.1), set_same (kept_set (by simp) h.2.2.1), kept_set (by simp) (kept_set (by simp) h.2.2.2.1),
    kept_set (by simp) (kept_set (by simp) h.2.2.2.2.1), kept_set (by simp) (kept_set (by simp) h.2.2.2.2.2.1), kept_set (by simp) (kept_set (by simp) h.2.2.2.2.2.2)⟩
theorem Cells6.set23 (h : Cells6 w W g a0 a1 b0 b1 c0 c1) (hg : w.heap.size ≤ g) (x y : Value) : Cells6 w ((W.setCell ⟨g + 1, 0, none⟩ x).setCell ⟨g + 1, 1, none⟩ y) g a0 a1 x y c0 c1 :=
  ⟨(h.1.setCell (by simp; omega) _).setCell (by simp; omega) _, kept_set (by simp) (kept_set (by simp) h.2.1), kept_set (by simp) (kept_set (by simp) h.2.2.1), kept_set (by simp) (set_same h.2.2.2.1),
    set_same (kept_set (by simp) h.2.2.2.2.1), kept_set (by simp) (kept_set (by simp) h.2.2.2.2.2.1), kept_set (by simp) (kept_set (by simp) h.2.2.2.2.2.2)⟩
end

set_option maxHeartbeats 1000000 in
theorem upTo_c (n : Int) (w : World) :
    Calls Try.prog 128 #[.int .i64 n] w fun e w' => e = .returned (.int .i64 (if 16 < n then 17 else n)) ∧ w = w' := by
  have Hi := Lib.hid (rfl : (if 16 < n then 17 else n) = (if 16 < n then (17 : Int) else n))
  by_cases h : 16 < n
  · rw [if_pos h]
    go_enter Try.func128, Try.ntmps128
    go_wp2
    go_ret
    exact ⟨rfl, rfl⟩
  · rw [if_neg h]
    go_enter Try.func128, Try.ntmps128
    go_wp2
    go_ret
    exact ⟨rfl, rfl⟩

set_option maxHeartbeats 2000000 in
theorem rJoin_c (b c : Int) (s t : Bool) (w : World) :
    Calls Try.prog 125 #[.agg #[.int .i64 b, .bool s], .agg #[.int .i64 c, .bool t]] w fun e w' => e = .returned (.agg #[.int .i64 (max (nrm b) (nrm c)), .bool (s || t)]) ∧ Ext w w' := by
  go_enter Try.func125, Try.ntmps125
  go_wp2_with fail
  obtain ⟨W, g, hg, hW, H⟩ := cells6_new w 78 (.int .i64 b) (.bool s) (.int .i64 c) (.bool t) (.int .i64 0) (.bool false)
  rw [hW, hg]
  have hgs : w.heap.size ≤ g := by omega
  clear hW hg
  refine (read_c _ _ _).mono ?_
  rintro e w1 ⟨rfl, hx⟩
  have H := H.ext hx
  clear hx
  obtain ⟨hX, q0, q1, q2, q3, q4, q5⟩ := id H
  go_wp2_with fail
  have H := H.set01 hgs (.int .i64 (nrm b)) (.bool s)
  clear hX q0 q1 q2 q3 q4 q5
  generalize (w1.setCell ⟨g, 0, none⟩ (.int .i64 (nrm b))).setCell ⟨g, 1, none⟩ (.bool s) = w2 at *
  refine (read_c _ _ _).mono ?_
  rintro e w3 ⟨rfl, hx⟩
  have H := H.ext hx
  clear hx
  have H2 := H.set23 hgs (.int .i64 (nrm c)) (.bool t)
  obtain ⟨hX, q0, q1, q2, q3, q4, q5⟩ := H
  clear H2
  cases s
  all_goals go_wp2
  all_goals refine bodyPost_ret (results_two (by repeat' first | (with_reducible exact some_of q4) | (with_reducible refine some_set ?_) | (with_reducible refine some_alloc ?_)) (by repeat' first | (with_reducible exact some_of q5) | (with_reducible refine some_set ?_) | (with_reducible refine some_alloc ?_)) rfl _ rfl Try.underlying78 rfl infoKnown) rfl ⟨ret_k (by omega) rfl, ?_⟩
  all_goals (repeat' first | (with_reducible exact Ext.refl _) | (with_reducible assumption) | (with_reducible refine Ext.drew ?_) | (with_reducible refine Ext.drewN ?_ _) | (with_reducible refine Ext.alloc ?_ _) | (with_reducible refine Ext.setCell ?_ (by first | (simp; done) | (simp; omega) | omega) _) | (with_reducible refine Ext.trans ?_ (by with_reducible assumption)))

set_option maxHeartbeats 2000000 in
theorem rLess_c (b c : Int) (s t : Bool) (w : World) :
    Calls Try.prog 98 #[.agg #[.int .i64 b, .bool s], .agg #[.int .i64 c, .bool t]] w fun e w' => e = .returned (.agg #[.int .i64 (min (nrm b) (nrm c)), .bool s]) ∧ Ext w w' := by
  go_enter Try.func98, Try.ntmps98
  go_wp2_with fail
  obtain ⟨W, g, hg, hW, H⟩ := cells6_new w 78 (.int .i64 b) (.bool s) (.int .i64 c) (.bool t) (.int .i64 0) (.bool false)
  rw [hW, hg]
  have hgs : w.heap.size ≤ g := by omega
  clear hW hg
  refine (read_c _ _ _).mono ?_
  rintro e w1 ⟨rfl, hx⟩
  have H := H.ext hx
  clear hx
  obtain ⟨hX, q0, q1, q2, q3, q4, q5⟩ := id H
  go_wp2_with fail
  have H := H.set01 hgs (.int .i64 (nrm b)) (.bool s)
  clear hX q0 q1 q2 q3 q4 q5
  generalize (w1.setCell ⟨g, 0, none⟩ (.int .i64 (nrm b))).setCell ⟨g, 1, none⟩ (.bool s) = w2 at *
  refine (read_c _ _ _).mono ?_
  rintro e w3 ⟨rfl, hx⟩
  have H := H.ext hx
  clear hx
  have H2 := H.set23 hgs (.int .i64 (nrm c)) (.bool t)
  obtain ⟨hX, q0, q1, q2, q3, q4, q5⟩ := H
  clear H2
  go_wp2
  all_goals refine bodyPost_ret (results_two (by repeat' first | (with_reducible exact some_of q4) | (with_reducible refine some_set ?_) | (with_reducible refine some_alloc ?_)) (by repeat' first | (with_reducible exact some_of q5) | (with_reducible refine some_set ?_) | (with_reducible refine some_alloc ?_)) rfl _ rfl Try.underlying78 rfl infoKnown) rfl ⟨ret_k (by omega) rfl, ?_⟩
  all_goals (repeat' first | (with_reducible exact Ext.refl _) | (with_reducible assumption) | (with_reducible refine Ext.drew ?_) | (with_reducible refine Ext.drewN ?_ _) | (with_reducible refine Ext.alloc ?_ _) | (with_reducible refine Ext.setCell ?_ (by first | (simp; done) | (simp; omega) | omega) _) | (with_reducible refine Ext.trans ?_ (by with_reducible assumption)))

theorem cells8_new {w W : World} {g : Nat} {a0 a1 b0 b1 c0 c1 : Value} (h : Cells6 w W g a0 a1 b0 b1 c0 c1) (T : TypeId) (x y : Value) : ∃ W' k, W.heap.size = k ∧ W.alloc (.cells #[x, y] T) = W' ∧ g + 1 + 1 < k ∧ Cells6 w W' g a0 a1 b0 b1 c0 c1 ∧
    (W'.cell? ⟨k, 0, none⟩ = some x ∧ W'.frozen? ⟨k, 0, none⟩ = false) ∧ (W'.cell? ⟨k, 1, none⟩ = some y ∧ W'.frozen? ⟨k, 1, none⟩ = false) :=
  ⟨_, _, rfl, rfl, block_lt h.2.2.2.2.2.1.1, h.ext ((Ext.refl _).alloc _), (one_new W T x y).1, (one_new W T x y).2⟩

set_option maxHeartbeats 8000000 in
theorem rKop_c (op b c : Int) (s t : Bool) (w : World) :
    Calls Try.prog 99 #[.int .i64 op, .agg #[.int .i64 b, .bool s], .agg #[.int .i64 c, .bool t]] w fun e w' => e = .returned (.agg #[.int .i64 (kop op (nrm b) (nrm c)), .bool (s || t)]) ∧ Ext w w' := by
  obtain ⟨b0, b1⟩ := nrm_bd b
  obtain ⟨c0, c1⟩ := nrm_bd c
  go_enter Try.func99, Try.ntmps99
  go_wp2_with fail
  obtain ⟨W, g, hg, hW, H⟩ := cells6_new w 78 (.int .i64 b) (.bool s) (.int .i64 c) (.bool t) (.int .i64 0) (.bool false)
  rw [hW, hg]
  have hgs : w.heap.size ≤ g := by omega
  clear hW hg
  refine (read_c _ _ _).mono ?_
  rintro e w1 ⟨rfl, hx⟩
  have H := H.ext hx
  clear hx
  obtain ⟨hX, q0, q1, q2, q3, q4, q5⟩ := id H
  go_wp2_with fail
  have H := H.set01 hgs (.int .i64 (nrm b)) (.bool s)
  clear hX q0 q1 q2 q3 q4 q5
  generalize (w1.setCell ⟨g, 0, none⟩ (.int .i64 (nrm b))).setCell ⟨g, 1, none⟩ (.bool s) = w2 at *
  refine (read_c _ _ _).mono ?_
  rintro e w3 ⟨rfl, hx⟩
  have H := H.ext hx
  clear hx
  have H2 := H.set23 hgs (.int .i64 (nrm c)) (.bool t)
  obtain ⟨hX, q0, q1, q2, q3, q4, q5⟩ := H
  go_upto_region 3 with fail
  clear hX q0 q1 q2 q3 q4 q5
  generalize (w3.setCell ⟨g + 1, 0, none⟩ (.int .i64 (nrm c))).setCell ⟨g + 1, 1, none⟩ (.bool t) = w4 at *
  obtain ⟨hX, q0, q1, q2, q3, q4, q5⟩ := id H2
  have hlt : g + 1 + 1 < w4.heap.size := block_lt q4.1
  have hlt1 : g + 1 < w4.heap.size := by omega
  have hlt0 : g < w4.heap.size := by omega
  cases s
  all_goals
    go_upto_region 4 with fail
    obtain ⟨w5, k, hk, hW, hgk, H, k0, k1⟩ := cells8_new H2 78 (.int .i64 17) _
    rw [hW, hk]
    clear hW hk H2 hX q0 q1 q2 q3 q4 q5 hlt hlt1 hlt0
    obtain ⟨hX, q0, q1, q2, q3, q4, q5⟩ := H
    have hgz := hX.size
    go_upto_if 29 with fail
    go_cut [8, 9] (fun s8 s9 wx => s8 = .int .i64 (max (nrm b) (nrm c)) ∧ s9 = .int .i64 (min (nrm b) (nrm c)) ∧ wx = w5)
    case first =>
      go_wp2
      all_goals
        go_meet
        exact ⟨congrArg (Value.int IntKind.i64) (by omega), congrArg (Value.int IntKind.i64) (by omega), rfl⟩
    case rest =>
      obtain ⟨rfl, rfl, rfl⟩ := hcut
      by_cases h : op = 1 ∨ op = 3 ∨ op = 4 ∨ op = 5 ∨ op = 6 ∨ op = 8 ∨ op = 9 ∨ op = 10
      · rcases h with rfl | rfl | rfl | rfl | rfl | rfl | rfl | rfl
        all_goals go_wp2_with (go_at_call 128; refine (upTo_c _ _).mono ?_; rintro e w' ⟨rfl, rfl⟩)
        all_goals refine bodyPost_ret (results_two (by repeat' first | (with_reducible exact some_of q4) | (with_reducible refine some_set ?_)) (by repeat' first | (with_reducible exact some_of q5) | (with_reducible refine some_set ?_)) rfl _ rfl Try.underlying78 rfl infoKnown) rfl ⟨ret_k (by first | (simp [kop, kopN]; omega) | (simp only [beq_iff_eq, beq_eq_false_iff_ne, ne_eq] at *; simp [kop, kopN]; omega) | (simp only [beq_iff_eq, beq_eq_false_iff_ne, ne_eq] at *; simp [kop, kopN]; split <;> omega)) rfl, ?_⟩
        all_goals (repeat' first | (with_reducible exact Ext.refl _) | (with_reducible assumption) | (with_reducible refine Ext.drew ?_) | (with_reducible refine Ext.drewN ?_ _) | (with_reducible refine Ext.alloc ?_ _) | (with_reducible refine Ext.setCell ?_ (by first | (simp; done) | (simp; omega) | omega) _) | (with_reducible refine Ext.trans ?_ (by with_reducible assumption)))
      · have Hk := Lib.hid (kopN_other (op := op) (nrm b) (nrm c) (by omega) (by omega) (by omega) (by omega) (by omega) (by omega) (by omega) (by omega))
        have e1 : (op == 1) = false := by rw [beq_eq_false_iff_ne]; omega
        have e3 : (op == 3) = false := by rw [beq_eq_false_iff_ne]; omega
        have e4 : (op == 4) = false := by rw [beq_eq_false_iff_ne]; omega
        have e5 : (op == 5) = false := by rw [beq_eq_false_iff_ne]; omega
        have e6 : (op == 6) = false := by rw [beq_eq_false_iff_ne]; omega
        have e8 : (op == 8) = false := by rw [beq_eq_false_iff_ne]; omega
        have e9 : (op == 9) = false := by rw [beq_eq_false_iff_ne]; omega
        have e10 : (op == 10) = false := by rw [beq_eq_false_iff_ne]; omega
        clear h
        go_wp2
        refine bodyPost_ret (results_two (by repeat' first | (with_reducible exact some_of q4) | (with_reducible refine some_set ?_)) (by repeat' first | (with_reducible exact some_of q5) | (with_reducible refine some_set ?_)) rfl _ rfl Try.underlying78 rfl infoKnown) rfl ⟨ret_k (by unfold kop; rw [Hk.out]; rfl) rfl, ?_⟩
        (repeat' first | (with_reducible exact Ext.refl _) | (with_reducible assumption) | (with_reducible refine Ext.drew ?_) | (with_reducible refine Ext.drewN ?_ _) | (with_reducible refine Ext.alloc ?_ _) | (with_reducible refine Ext.setCell ?_ (by first | (simp; done) | (simp; omega) | omega) _) | (with_reducible refine Ext.trans ?_ (by with_reducible assumption)))

set_option maxHeartbeats 1000000 in
theorem rOf_c (n : Int) (w : World) :
    Calls Try.prog 97 #[.int .i64 n] w fun e w' => e = .returned (.agg #[.int .i64 (kof n), .bool false]) ∧ Ext w w' := by
  obtain ⟨k0, k1⟩ := kof_bd n
  have Hf : Hid (∀ k : Nat, k ≤ 16 → khas k n = decide (kof n ≤ k)) := fun k hk => kof_fits n k hk
  go_enter Try.func97, Try.ntmps97
  go_wp2
  go_loopw [3] (fun i wr => ∃ k : Nat, k ≤ 17 ∧ i = .int .i64 k ∧ (k : Int) ≤ kof n ∧ Ext w wr ∧ Blk wr w.heap.size 78 #[.int .i64 0, .bool false]) (fun i _ => 17 - (intOf i).toNat)
  case atStart => exact ⟨0, by omega, rfl, by omega, (Ext.refl _).alloc _, Blk.new _ _ _⟩
  case round =>
    obtain ⟨k, hk, rfl, hle, hX, hB⟩ := hrel
    have q4 : wr.cell? ⟨w.heap.size, 0, none⟩ = some (.int .i64 0) ∧ wr.frozen? ⟨w.heap.size, 0, none⟩ = false := ⟨by rw [hB.cell]; rfl, hB.frozen 0⟩
    have q5 : wr.cell? ⟨w.heap.size, 1, none⟩ = some (.bool false) ∧ wr.frozen? ⟨w.heap.size, 1, none⟩ = false := ⟨by rw [hB.cell]; rfl, hB.frozen 1⟩
    by_cases hlt : k < 17
    · have hfk := Hf.out k (by omega)
      have HB := Lib.hid hB
      clear hB
      by_cases hh : kof n ≤ k
      · have he : kof n = k := by omega
        have He := Lib.hid he
        have hfk' : khas k n = true := by rw [hfk]; simp; omega
        clear hfk he hh
        go_wp2_with fail
        refine (rHas_c _ _ _ _).mono ?_
        rintro e w1 ⟨rfl, hx⟩
        rw [hfk']
        have q4 := kept2 hx q4
        have q5 := kept2 hx q5
        go_wp2
        refine bodyPost_ret (results_two (by repeat' first | (with_reducible exact some_of q4) | (with_reducible refine some_set ?_) | (with_reducible refine some_alloc ?_)) (by repeat' first | (with_reducible exact some_of q5) | (with_reducible refine some_set ?_) | (with_reducible refine some_alloc ?_)) rfl _ rfl Try.underlying78 rfl infoKnown) rfl ⟨ret_k He.out.symm rfl, ?_⟩
        (repeat' first | (with_reducible exact Ext.refl _) | (with_reducible assumption) | (with_reducible refine Ext.drew ?_) | (with_reducible refine Ext.drewN ?_ _) | (with_reducible refine Ext.alloc ?_ _) | (with_reducible refine Ext.setCell ?_ (by first | (simp; done) | (simp; omega) | omega) _) | (with_reducible refine Ext.trans ?_ (by with_reducible assumption)))
      · have hfk' : khas k n = false := by rw [hfk]; simp; omega
        clear hfk
        go_wp2_with fail
        refine (rHas_c _ _ _ _).mono ?_
        rintro e w1 ⟨rfl, hx⟩
        rw [hfk']
        go_wp2
        go_roundw
        case rel => exact ⟨k + 1, by omega, by go_num, by omega, hX.trans hx, HB.out.ext hx⟩
        case measure => first | (simp [intOf]; done) | (simp [intOf]; omega)
    · obtain rfl : k = 17 := by omega
      have He : Hid (kof n = 17) := by show _ = _; omega
      clear hlt hle
      go_wp2
      refine bodyPost_ret (results_two (by repeat' first | (with_reducible exact some_of q4) | (with_reducible refine some_set ?_) | (with_reducible refine some_alloc ?_)) (by repeat' first | (with_reducible exact some_of q5) | (with_reducible refine some_set ?_) | (with_reducible refine some_alloc ?_)) rfl _ rfl Try.underlying78 rfl infoKnown) rfl ⟨ret_k He.out.symm rfl, ?_⟩
      (repeat' first | (with_reducible exact Ext.refl _) | (with_reducible assumption) | (with_reducible refine Ext.drew ?_) | (with_reducible refine Ext.drewN ?_ _) | (with_reducible refine Ext.alloc ?_ _) | (with_reducible refine Ext.setCell ?_ (by first | (simp; done) | (simp; omega) | omega) _) | (with_reducible refine Ext.trans ?_ (by with_reducible assumption)))
end Go.Proofs.Yteiknefajlocoaa
/- Walks of the reference's shape and ins (chapter 2). -/
namespace Go.Proofs.Yteiknefajlocoaa
open Go.ChangeShapes Go.WideShapes Go.ChangeAt Go.RowKit
set_option linter.unusedVariables false
set_option linter.unusedSimpArgs false

theorem shape_1 (w : World) : Calls Try.prog 129 #[.int .i64 1] w fun e w' => e = .returned (.tuple #[.slice (some ⟨w.heap.size, 0, none⟩) 3 3, .bool true, .bool true]) ∧ w' = w.alloc (.cells #[.int .i64 1, .int .i64 0, .int .i64 0] 3) := by
  go_enter Try.func129, Try.ntmps129
  go_wp2
  go_ret3
  exact ⟨rfl, rfl⟩
theorem shape_2 (w : World) : Calls Try.prog 129 #[.int .i64 2] w fun e w' => e = .returned (.tuple #[.slice (some ⟨w.heap.size, 0, none⟩) 3 3, .bool false, .bool true]) ∧ w' = w.alloc (.cells #[.int .i64 1, .int .i64 1, .int .i64 0] 3) := by
  go_enter Try.func129, Try.ntmps129
  go_wp2
  go_ret3
  exact ⟨rfl, rfl⟩
theorem shape_3 (w : World) : Calls Try.prog 129 #[.int .i64 3] w fun e w' => e = .returned (.tuple #[.slice (some ⟨w.heap.size, 0, none⟩) 3 3, .bool true, .bool true]) ∧ w' = w.alloc (.cells #[.int .i64 1, .int .i64 1, .int .i64 2] 3) := by
  go_enter Try.func129, Try.ntmps129
  go_wp2
  go_ret3
  exact ⟨rfl, rfl⟩
theorem shape_4 (w : World) : Calls Try.prog 129 #[.int .i64 4] w fun e w' => e = .returned (.tuple #[.slice (some ⟨w.heap.size, 0, none⟩) 3 3, .bool true, .bool true]) ∧ w' = w.alloc (.cells #[.int .i64 1, .int .i64 1, .int .i64 2] 3) := by
  go_enter Try.func129, Try.ntmps129
  go_wp2
  go_ret3
  exact ⟨rfl, rfl⟩
theorem shape_5 (w : World) : Calls Try.prog 129 #[.int .i64 5] w fun e w' => e = .returned (.tuple #[.slice (some ⟨w.heap.size, 0, none⟩) 3 3, .bool true, .bool true]) ∧ w' = w.alloc (.cells #[.int .i64 1, .int .i64 0, .int .i64 2] 3) := by
  go_enter Try.func129, Try.ntmps129
  go_wp2
  go_ret3
  exact ⟨rfl, rfl⟩
theorem shape_6 (w : World) : Calls Try.prog 129 #[.int .i64 6] w fun e w' => e = .returned (.tuple #[.slice (some ⟨w.heap.size, 0, none⟩) 3 3, .bool true, .bool true]) ∧ w' = w.alloc (.cells #[.int .i64 1, .int .i64 0, .int .i64 2] 3) := by
  go_enter Try.func129, Try.ntmps129
  go_wp2
  go_ret3
  exact ⟨rfl, rfl⟩
theorem shape_7 (w : World) : Calls Try.prog 129 #[.int .i64 7] w fun e w' => e = .returned (.tuple #[.slice (some ⟨w.heap.size, 0, none⟩) 3 3, .bool true, .bool true]) ∧ w' = w.alloc (.cells #[.int .i64 0, .int .i64 0, .int .i64 0] 3) := by
  go_enter Try.func129, Try.ntmps129
  go_wp2
  go_ret3
  exact ⟨rfl, rfl⟩
theorem shape_8 (w : World) : Calls Try.prog 129 #[.int .i64 8] w fun e w' => e = .returned (.tuple #[.slice (some ⟨w.heap.size, 0, none⟩) 3 3, .bool true, .bool true]) ∧ w' = w.alloc (.cells #[.int .i64 1, .int .i64 1, .int .i64 2] 3) := by
  go_enter Try.func129, Try.ntmps129
  go_wp2
  go_ret3
  exact ⟨rfl, rfl⟩
theorem shape_9 (w : World) : Calls Try.prog 129 #[.int .i64 9] w fun e w' => e = .returned (.tuple #[.slice (some ⟨w.heap.size, 0, none⟩) 3 3, .bool false, .bool true]) ∧ w' = w.alloc (.cells #[.int .i64 1, .int .i64 0, .int .i64 0] 3) := by
  go_enter Try.func129, Try.ntmps129
  go_wp2
  go_ret3
  exact ⟨rfl, rfl⟩
theorem shape_10 (w : World) : Calls Try.prog 129 #[.int .i64 10] w fun e w' => e = .returned (.tuple #[.slice (some ⟨w.heap.size, 0, none⟩) 3 3, .bool true, .bool true]) ∧ w' = w.alloc (.cells #[.int .i64 1, .int .i64 1, .int .i64 0] 3) := by
  go_enter Try.func129, Try.ntmps129
  go_wp2
  go_ret3
  exact ⟨rfl, rfl⟩
theorem shape_11 (w : World) : Calls Try.prog 129 #[.int .i64 11] w fun e w' => e = .returned (.tuple #[.slice (some ⟨w.heap.size, 0, none⟩) 3 3, .bool true, .bool true]) ∧ w' = w.alloc (.cells #[.int .i64 1, .int .i64 0, .int .i64 0] 3) := by
  go_enter Try.func129, Try.ntmps129
  go_wp2
  go_ret3
  exact ⟨rfl, rfl⟩
theorem shape_12 (w : World) : Calls Try.prog 129 #[.int .i64 12] w fun e w' => e = .returned (.tuple #[.slice (some ⟨w.heap.size, 0, none⟩) 3 3, .bool false, .bool true]) ∧ w' = w.alloc (.cells #[.int .i64 0, .int .i64 0, .int .i64 0] 3) := by
  go_enter Try.func129, Try.ntmps129
  go_wp2
  go_ret3
  exact ⟨rfl, rfl⟩
theorem shape_op (op : Int) (h0 : 20 < op) (h1 : op ≤ 30) (w : World) : Calls Try.prog 129 #[.int .i64 op] w fun e w' => e = .returned (.tuple #[.slice (some ⟨w.heap.size, 0, none⟩) 3 3, .bool false, .bool true]) ∧ w' = w.alloc (.cells #[.int .i64 1, .int .i64 1, .int .i64 1] 3) := by
  go_enter Try.func129, Try.ntmps129
  go_wp2
  go_ret3
  exact ⟨rfl, rfl⟩
theorem shape_none (op : Int) (h : op ≤ 20 ∨ 30 < op) (n1 : (op == 1) = false) (n2 : (op == 2) = false) (n3 : (op == 3) = false) (n4 : (op == 4) = false) (n5 : (op == 5) = false) (n6 : (op == 6) = false) (n7 : (op == 7) = false) (n8 : (op == 8) = false) (n9 : (op == 9) = false) (n10 : (op == 10) = false) (n11 : (op == 11) = false) (n12 : (op == 12) = false) (w : World) : Calls Try.prog 129 #[.int .i64 op] w fun e w' => e = .returned (.tuple #[.slice none 0 0, .bool false, .bool false]) ∧ w = w' := by
  rcases h with h | h
  · have hd : decide ((20 : Int) < op) = false := by simpa using h
    go_enter Try.func129, Try.ntmps129
    go_wp2
    go_ret3
    exact ⟨rfl, rfl⟩
  · have h0 : (20 : Int) < op := by omega
    have hd : decide (op ≤ (30 : Int)) = false := by simpa using h
    go_enter Try.func129, Try.ntmps129
    go_wp2
    go_ret3
    exact ⟨rfl, rfl⟩
end Go.Proofs.Yteiknefajlocoaa
/- The walk of the reference's ins, a kind of instruction each. -/
namespace Go.Proofs.Yteiknefajlocoaa
open Go.ChangeShapes Go.WideShapes Go.ChangeAt Go.RowKit
set_option linter.unusedVariables false
set_option linter.unusedSimpArgs false

def tri (x y z : Int) (t : Nat) : Int := if t = 0 then x else if t = 1 then y else z
/-- may a field be: of a kind (0: nothing, 1: a register) -/
def fok (R l f : Int) : Bool := if l = 0 then decide (f = 0) else if l = 1 then decide (0 ≤ f) && decide (f < R) else true
theorem fok_iff {R l f : Int} : fok R l f = true ↔ (l = 0 → f = 0) ∧ (l = 1 → 0 ≤ f ∧ f < R) := by
  unfold fok
  by_cases h0 : l = 0
  · simp [h0]
  by_cases h1 : l = 1
  · simp [h1]
  simp [h0, h1]

end Go.Proofs.Yteiknefajlocoaa
/- The walk of the reference's ins, a kind of instruction each. -/
namespace Go.Proofs.Yteiknefajlocoaa
open Go.ChangeShapes Go.WideShapes Go.ChangeAt Go.RowKit
set_option linter.unusedVariables false
set_option linter.unusedSimpArgs false

set_option maxRecDepth 100000 in
set_option maxHeartbeats 4000000 in
theorem rIns_1 (p : LProg) (vp : Value) (R : Int) (a b c n : Int) (fa : R64 a) (fb : R64 b) (fc : R64 c) (fn : R64 n) (fR : R64 R) (w : World) (hp : ProgAt w vp p) :
    Calls Try.prog 100 #[vp, .agg #[.int .i64 1, .int .i64 a, .int .i64 b, .int .i64 c, .int .i64 n], .int .i64 R] w fun e w' => e = .returned (.bool (insOk p R ⟨1, a, b, c, n⟩)) ∧ Ext w w' := by
  have HP := Lib.hid hp
  obtain ⟨v1, v2, rfl, ⟨hb, oa, cap, b0, o, rfl, hc1, hc2, hrow⟩, ⟨hf, ob, capb, b2, o2, rfl, hd1, hd2, hrow2⟩⟩ := hp
  have hlen := len_bd hc1 hc2
  have hlen2 := len_bd hd1 hd2
  have Hrow := Lib.hid hrow
  have hat := hrow.at_
  have r0 := fR.1; have r1 := fR.2
  have a0 := fa.1; have a1 := fa.2; have b00 := fb.1; have b01 := fb.2; have c0' := fc.1; have c1' := fc.2; have n0' := fn.1; have n1' := fn.2
  clear hc1 hc2 hd1 hd2 hrow hrow2 hb hf
  have Hgoal : ∀ r : Bool, Hid ((r = true ↔ insOk p R ⟨1, a, b, c, n⟩ = true) → insOk p R ⟨1, a, b, c, n⟩ = r) := fun r => Lib.hid fun h => by
    cases r <;> cases hh : insOk p R ⟨1, a, b, c, n⟩ <;> simp_all
  have Hins : Hid (insOk p R ⟨1, a, b, c, n⟩ = true ↔ (fok R 1 a = true ∧ fok R 0 b = true ∧ fok R 0 c = true) ∧ True) := Lib.hid (by
    simp only [fok_iff]
    unfold insOk; simp [okIn]
    try omega)
  go_enter Try.func100, Try.ntmps100
  go_wp2_with fail
  obtain ⟨W, g, hg, hW, hx, bA, bB⟩ := blocks2 w #[.slice oa p.regs.length cap, .slice ob p.code.length capb] #[.int .i64 1, .int .i64 a, .int .i64 b, .int .i64 c, .int .i64 n] 25 70
  rw [hW, hg]
  have X := Lib.hid hx
  clear hW hg hx
  have C := (shape_1 W)
  (with_reducible refine C.mono ?_)
  clear C
  rintro e w1 ⟨rfl, hw1⟩
  have bS : Blk w1 W.heap.size 3 #[.int .i64 1, .int .i64 0, .int .i64 0] := by rw [hw1]; exact Blk.new W _ _
  have h1 : Ext W w1 := by rw [hw1]; exact (Ext.refl W).alloc _
  clear hw1
  generalize W.heap.size = ks at *
  have bA := bA.ext h1
  have bB := bB.ext h1
  have X := Lib.hid (X.out.trans h1)
  clear h1
  have p0 : w1.cell? ⟨g, 0, none⟩ = some (.slice oa p.regs.length cap) := by rw [bA.cell]; rfl
  have p1 : w1.cell? ⟨g, 1, none⟩ = some (.slice ob p.code.length capb) := by rw [bA.cell]; rfl
  have e0 : w1.cell? ⟨g + 1, 0, none⟩ = some (.int .i64 1) := by rw [bB.cell]; rfl
  have e1 : w1.cell? ⟨g + 1, 1, none⟩ = some (.int .i64 a) := by rw [bB.cell]; rfl
  have e2 : w1.cell? ⟨g + 1, 2, none⟩ = some (.int .i64 b) := by rw [bB.cell]; rfl
  have e3 : w1.cell? ⟨g + 1, 3, none⟩ = some (.int .i64 c) := by rw [bB.cell]; rfl
  have e4 : w1.cell? ⟨g + 1, 4, none⟩ = some (.int .i64 n) := by rw [bB.cell]; rfl
  go_wp2_with fail
  obtain ⟨w2, hw2⟩ : ∃ w2, w2 = w1.alloc (.cells #[.int .i64 a, .int .i64 b, .int .i64 c] 3) := ⟨_, rfl⟩
  have bF : Blk w2 w1.heap.size 3 #[.int .i64 a, .int .i64 b, .int .i64 c] := by rw [hw2]; exact Blk.new w1 _ _
  have h2 : Ext w1 w2 := by rw [hw2]; exact (Ext.refl w1).alloc _
  rw [← hw2]
  clear hw2
  generalize w1.heap.size = kf at *
  have bA := bA.ext h2
  have bB := bB.ext h2
  have bS := bS.ext h2
  have X := Lib.hid (X.out.trans h2)
  clear h2 p0 p1 e0 e1 e2 e3 e4
  go_loopw [11] (fun i wr => ∃ j : Nat, j ≤ 3 ∧ i = .int .i64 j ∧ Ext w2 wr ∧ ∀ t, t < j → fok R (tri 1 0 0 t) (tri a b c t) = true) (fun i _ => 3 - (intOf i).toNat)
  case atStart => exact ⟨0, by omega, rfl, Ext.refl _, fun t ht => by omega⟩
  case round =>
    obtain ⟨j, hj, rfl, hE, hok⟩ := hrel
    have bA := bA.ext hE
    have bB := bB.ext hE
    have bS := bS.ext hE
    have bF := bF.ext hE
    have X := Lib.hid (X.out.trans hE)
    have HE := Lib.hid hE
    have Hok := Lib.hid hok
    clear hE hok
    by_cases hlt : j < 3
    · have hjj : j = 0 ∨ j = 1 ∨ j = 2 := by omega
      rcases hjj with rfl | rfl | rfl
      · have s0 : wr.cell? ⟨ks, 0, none⟩ = some (.int .i64 1) := by rw [bS.cell]; rfl
        have f0 : wr.cell? ⟨kf, 0, none⟩ = some (.int .i64 a) := by rw [bF.cell]; rfl
        by_cases hz : 0 ≤ a
        · by_cases hy : a < R
          · go_wp2
            go_roundw
            case rel => exact ⟨1, by omega, by first | rfl | go_num, HE.out, fun t ht => by
              rcases (show t < 0 ∨ t = 0 by omega) with h | h
              · exact Hok.out t h
              · subst h; exact fok_iff.2 ⟨fun h => absurd h (by decide), fun _ => ⟨hz, hy⟩⟩⟩
            case measure => simp [intOf]

          · go_wp2
            go_ret
            refine ⟨ret_b ?_, X.out⟩
            cases hh : insOk p R ⟨1, a, b, c, n⟩
            · rfl
            · exfalso
              have hq := Hins.out.1 hh
              (simp [fok_iff] at hq) <;> omega

        · go_wp2
          go_ret
          refine ⟨ret_b ?_, X.out⟩
          cases hh : insOk p R ⟨1, a, b, c, n⟩
          · rfl
          · exfalso
            have hq := Hins.out.1 hh
            (simp [fok_iff] at hq) <;> omega
      · have s0 : wr.cell? ⟨ks, 1, none⟩ = some (.int .i64 0) := by rw [bS.cell]; rfl
        have f0 : wr.cell? ⟨kf, 1, none⟩ = some (.int .i64 b) := by rw [bF.cell]; rfl
        by_cases hz : b = 0
        · have hz1 : (b != 0) = false := by simpa using hz
          go_wp2
          go_roundw
          case rel => exact ⟨2, by omega, by first | rfl | go_num, HE.out, fun t ht => by
            rcases (show t < 1 ∨ t = 1 by omega) with h | h
            · exact Hok.out t h
            · subst h; exact fok_iff.2 ⟨fun _ => hz, fun h => absurd h (by decide)⟩⟩
          case measure => simp [intOf]

        · have hz1 : (b != 0) = true := by simpa using hz
          go_wp2
          go_ret
          refine ⟨ret_b ?_, X.out⟩
          cases hh : insOk p R ⟨1, a, b, c, n⟩
          · rfl
          · exfalso
            have hq := Hins.out.1 hh
            (simp [fok_iff] at hq) <;> omega
      · have s0 : wr.cell? ⟨ks, 2, none⟩ = some (.int .i64 0) := by rw [bS.cell]; rfl
        have f0 : wr.cell? ⟨kf, 2, none⟩ = some (.int .i64 c) := by rw [bF.cell]; rfl
        by_cases hz : c = 0
        · have hz1 : (c != 0) = false := by simpa using hz
          go_wp2
          go_roundw
          case rel => exact ⟨3, by omega, by first | rfl | go_num, HE.out, fun t ht => by
            rcases (show t < 2 ∨ t = 2 by omega) with h | h
            · exact Hok.out t h
            · subst h; exact fok_iff.2 ⟨fun _ => hz, fun h => absurd h (by decide)⟩⟩
          case measure => simp [intOf]

        · have hz1 : (c != 0) = true := by simpa using hz
          go_wp2
          go_ret
          refine ⟨ret_b ?_, X.out⟩
          cases hh : insOk p R ⟨1, a, b, c, n⟩
          · rfl
          · exfalso
            have hq := Hins.out.1 hh
            (simp [fok_iff] at hq) <;> omega
    · obtain rfl : j = 3 := by omega
      have k0 := Hok.out 0 (by omega)
      have k1 := Hok.out 1 (by omega)
      have k2 := Hok.out 2 (by omega)
      have K := Lib.hid (And.intro k0 (And.intro k1 k2))
      clear k0 k1 k2
      have p0 : wr.cell? ⟨g, 0, none⟩ = some (.slice oa p.regs.length cap) := by rw [bA.cell]; rfl
      have p1 : wr.cell? ⟨g, 1, none⟩ = some (.slice ob p.code.length capb) := by rw [bA.cell]; rfl
      have e0 : wr.cell? ⟨g + 1, 0, none⟩ = some (.int .i64 1) := by rw [bB.cell]; rfl
      have e1 : wr.cell? ⟨g + 1, 1, none⟩ = some (.int .i64 a) := by rw [bB.cell]; rfl
      have e2 : wr.cell? ⟨g + 1, 2, none⟩ = some (.int .i64 b) := by rw [bB.cell]; rfl
      have e3 : wr.cell? ⟨g + 1, 3, none⟩ = some (.int .i64 c) := by rw [bB.cell]; rfl
      have e4 : wr.cell? ⟨g + 1, 4, none⟩ = some (.int .i64 n) := by rw [bB.cell]; rfl
      go_wp2
      go_ret
      exact ⟨ret_b (Hins.out.2 ⟨⟨K.out.1, K.out.2.1, K.out.2.2⟩, by first | trivial | omega⟩).symm, X.out⟩

set_option maxRecDepth 100000 in
set_option maxHeartbeats 4000000 in
theorem rIns_2 (p : LProg) (vp : Value) (R : Int) (a b c n : Int) (fa : R64 a) (fb : R64 b) (fc : R64 c) (fn : R64 n) (fR : R64 R) (w : World) (hp : ProgAt w vp p) :
    Calls Try.prog 100 #[vp, .agg #[.int .i64 2, .int .i64 a, .int .i64 b, .int .i64 c, .int .i64 n], .int .i64 R] w fun e w' => e = .returned (.bool (insOk p R ⟨2, a, b, c, n⟩)) ∧ Ext w w' := by
  have HP := Lib.hid hp
  obtain ⟨v1, v2, rfl, ⟨hb, oa, cap, b0, o, rfl, hc1, hc2, hrow⟩, ⟨hf, ob, capb, b2, o2, rfl, hd1, hd2, hrow2⟩⟩ := hp
  have hlen := len_bd hc1 hc2
  have hlen2 := len_bd hd1 hd2
  have Hrow := Lib.hid hrow
  have hat := hrow.at_
  have r0 := fR.1; have r1 := fR.2
  have a0 := fa.1; have a1 := fa.2; have b00 := fb.1; have b01 := fb.2; have c0' := fc.1; have c1' := fc.2; have n0' := fn.1; have n1' := fn.2
  clear hc1 hc2 hd1 hd2 hrow hrow2 hb hf
  have Hgoal : ∀ r : Bool, Hid ((r = true ↔ insOk p R ⟨2, a, b, c, n⟩ = true) → insOk p R ⟨2, a, b, c, n⟩ = r) := fun r => Lib.hid fun h => by
    cases r <;> cases hh : insOk p R ⟨2, a, b, c, n⟩ <;> simp_all
  have Hins : Hid (insOk p R ⟨2, a, b, c, n⟩ = true ↔ (fok R 1 a = true ∧ fok R 1 b = true ∧ fok R 0 c = true ∧ n = 0) ∧ True) := Lib.hid (by
    simp only [fok_iff]
    unfold insOk; simp [okIn]
    try omega)
  go_enter Try.func100, Try.ntmps100
  go_wp2_with fail
  obtain ⟨W, g, hg, hW, hx, bA, bB⟩ := blocks2 w #[.slice oa p.regs.length cap, .slice ob p.code.length capb] #[.int .i64 2, .int .i64 a, .int .i64 b, .int .i64 c, .int .i64 n] 25 70
  rw [hW, hg]
  have X := Lib.hid hx
  clear hW hg hx
  have C := (shape_2 W)
  (with_reducible refine C.mono ?_)
  clear C
  rintro e w1 ⟨rfl, hw1⟩
  have bS : Blk w1 W.heap.size 3 #[.int .i64 1, .int .i64 1, .int .i64 0] := by rw [hw1]; exact Blk.new W _ _
  have h1 : Ext W w1 := by rw [hw1]; exact (Ext.refl W).alloc _
  clear hw1
  generalize W.heap.size = ks at *
  have bA := bA.ext h1
  have bB := bB.ext h1
  have X := Lib.hid (X.out.trans h1)
  clear h1
  have p0 : w1.cell? ⟨g, 0, none⟩ = some (.slice oa p.regs.length cap) := by rw [bA.cell]; rfl
  have p1 : w1.cell? ⟨g, 1, none⟩ = some (.slice ob p.code.length capb) := by rw [bA.cell]; rfl
  have e0 : w1.cell? ⟨g + 1, 0, none⟩ = some (.int .i64 2) := by rw [bB.cell]; rfl
  have e1 : w1.cell? ⟨g + 1, 1, none⟩ = some (.int .i64 a) := by rw [bB.cell]; rfl
  have e2 : w1.cell? ⟨g + 1, 2, none⟩ = some (.int .i64 b) := by rw [bB.cell]; rfl
  have e3 : w1.cell? ⟨g + 1, 3, none⟩ = some (.int .i64 c) := by rw [bB.cell]; rfl
  have e4 : w1.cell? ⟨g + 1, 4, none⟩ = some (.int .i64 n) := by rw [bB.cell]; rfl
  by_cases hn : n = 0
  rotate_left
  · have hn1 : (n != 0) = true := by simpa using hn
    go_wp2
    go_ret
    refine ⟨ret_b ?_, X.out⟩
    cases hh : insOk p R ⟨2, a, b, c, n⟩
    · rfl
    · exfalso
      have hq := Hins.out.1 hh
      (simp [fok_iff] at hq) <;> omega
  subst hn
  clear n0' n1'
  go_wp2_with fail
  obtain ⟨w2, hw2⟩ : ∃ w2, w2 = w1.alloc (.cells #[.int .i64 a, .int .i64 b, .int .i64 c] 3) := ⟨_, rfl⟩
  have bF : Blk w2 w1.heap.size 3 #[.int .i64 a, .int .i64 b, .int .i64 c] := by rw [hw2]; exact Blk.new w1 _ _
  have h2 : Ext w1 w2 := by rw [hw2]; exact (Ext.refl w1).alloc _
  rw [← hw2]
  clear hw2
  generalize w1.heap.size = kf at *
  have bA := bA.ext h2
  have bB := bB.ext h2
  have bS := bS.ext h2
  have X := Lib.hid (X.out.trans h2)
  clear h2 p0 p1 e0 e1 e2 e3 e4
  go_loopw [11] (fun i wr => ∃ j : Nat, j ≤ 3 ∧ i = .int .i64 j ∧ Ext w2 wr ∧ ∀ t, t < j → fok R (tri 1 1 0 t) (tri a b c t) = true) (fun i _ => 3 - (intOf i).toNat)
  case atStart => exact ⟨0, by omega, rfl, Ext.refl _, fun t ht => by omega⟩
  case round =>
    obtain ⟨j, hj, rfl, hE, hok⟩ := hrel
    have bA := bA.ext hE
    have bB := bB.ext hE
    have bS := bS.ext hE
    have bF := bF.ext hE
    have X := Lib.hid (X.out.trans hE)
    have HE := Lib.hid hE
    have Hok := Lib.hid hok
    clear hE hok
    by_cases hlt : j < 3
    · have hjj : j = 0 ∨ j = 1 ∨ j = 2 := by omega
      rcases hjj with rfl | rfl | rfl
      · have s0 : wr.cell? ⟨ks, 0, none⟩ = some (.int .i64 1) := by rw [bS.cell]; rfl
        have f0 : wr.cell? ⟨kf, 0, none⟩ = some (.int .i64 a) := by rw [bF.cell]; rfl
        by_cases hz : 0 ≤ a
        · by_cases hy : a < R
          · go_wp2
            go_roundw
            case rel => exact ⟨1, by omega, by first | rfl | go_num, HE.out, fun t ht => by
              rcases (show t < 0 ∨ t = 0 by omega) with h | h
              · exact Hok.out t h
              · subst h; exact fok_iff.2 ⟨fun h => absurd h (by decide), fun _ => ⟨hz, hy⟩⟩⟩
            case measure => simp [intOf]

          · go_wp2
            go_ret
            refine ⟨ret_b ?_, X.out⟩
            cases hh : insOk p R ⟨2, a, b, c, 0⟩
            · rfl
            · exfalso
              have hq := Hins.out.1 hh
              (simp [fok_iff] at hq) <;> omega

        · go_wp2
          go_ret
          refine ⟨ret_b ?_, X.out⟩
          cases hh : insOk p R ⟨2, a, b, c, 0⟩
          · rfl
          · exfalso
            have hq := Hins.out.1 hh
            (simp [fok_iff] at hq) <;> omega
      · have s0 : wr.cell? ⟨ks, 1, none⟩ = some (.int .i64 1) := by rw [bS.cell]; rfl
        have f0 : wr.cell? ⟨kf, 1, none⟩ = some (.int .i64 b) := by rw [bF.cell]; rfl
        by_cases hz : 0 ≤ b
        · by_cases hy : b < R
          · go_wp2
            go_roundw
            case rel => exact ⟨2, by omega, by first | rfl | go_num, HE.out, fun t ht => by
              rcases (show t < 1 ∨ t = 1 by omega) with h | h
              · exact Hok.out t h
              · subst h; exact fok_iff.2 ⟨fun h => absurd h (by decide), fun _ => ⟨hz, hy⟩⟩⟩
            case measure => simp [intOf]

          · go_wp2
            go_ret
            refine ⟨ret_b ?_, X.out⟩
            cases hh : insOk p R ⟨2, a, b, c, 0⟩
            · rfl
            · exfalso
              have hq := Hins.out.1 hh
              (simp [fok_iff] at hq) <;> omega

        · go_wp2
          go_ret
          refine ⟨ret_b ?_, X.out⟩
          cases hh : insOk p R ⟨2, a, b, c, 0⟩
          · rfl
          · exfalso
            have hq := Hins.out.1 hh
            (simp [fok_iff] at hq) <;> omega
      · have s0 : wr.cell? ⟨ks, 2, none⟩ = some (.int .i64 0) := by rw [bS.cell]; rfl
        have f0 : wr.cell? ⟨kf, 2, none⟩ = some (.int .i64 c) := by rw [bF.cell]; rfl
        by_cases hz : c = 0
        · have hz1 : (c != 0) = false := by simpa using hz
          go_wp2
          go_roundw
          case rel => exact ⟨3, by omega, by first | rfl | go_num, HE.out, fun t ht => by
            rcases (show t < 2 ∨ t = 2 by omega) with h | h
            · exact Hok.out t h
            · subst h; exact fok_iff.2 ⟨fun _ => hz, fun h => absurd h (by decide)⟩⟩
          case measure => simp [intOf]

        · have hz1 : (c != 0) = true := by simpa using hz
          go_wp2
          go_ret
          refine ⟨ret_b ?_, X.out⟩
          cases hh : insOk p R ⟨2, a, b, c, 0⟩
          · rfl
          · exfalso
            have hq := Hins.out.1 hh
            (simp [fok_iff] at hq) <;> omega
    · obtain rfl : j = 3 := by omega
      have k0 := Hok.out 0 (by omega)
      have k1 := Hok.out 1 (by omega)
      have k2 := Hok.out 2 (by omega)
      have K := Lib.hid (And.intro k0 (And.intro k1 k2))
      clear k0 k1 k2
      have p0 : wr.cell? ⟨g, 0, none⟩ = some (.slice oa p.regs.length cap) := by rw [bA.cell]; rfl
      have p1 : wr.cell? ⟨g, 1, none⟩ = some (.slice ob p.code.length capb) := by rw [bA.cell]; rfl
      have e0 : wr.cell? ⟨g + 1, 0, none⟩ = some (.int .i64 2) := by rw [bB.cell]; rfl
      have e1 : wr.cell? ⟨g + 1, 1, none⟩ = some (.int .i64 a) := by rw [bB.cell]; rfl
      have e2 : wr.cell? ⟨g + 1, 2, none⟩ = some (.int .i64 b) := by rw [bB.cell]; rfl
      have e3 : wr.cell? ⟨g + 1, 3, none⟩ = some (.int .i64 c) := by rw [bB.cell]; rfl
      have e4 : wr.cell? ⟨g + 1, 4, none⟩ = some (.int .i64 0) := by rw [bB.cell]; rfl
      go_wp2
      go_ret
      exact ⟨ret_b (Hins.out.2 ⟨⟨K.out.1, K.out.2.1, K.out.2.2, by trivial⟩, by first | trivial | omega⟩).symm, X.out⟩

set_option maxRecDepth 100000 in
set_option maxHeartbeats 4000000 in
theorem rIns_3 (p : LProg) (vp : Value) (R : Int) (a b c n : Int) (fa : R64 a) (fb : R64 b) (fc : R64 c) (fn : R64 n) (fR : R64 R) (w : World) (hp : ProgAt w vp p) :
    Calls Try.prog 100 #[vp, .agg #[.int .i64 3, .int .i64 a, .int .i64 b, .int .i64 c, .int .i64 n], .int .i64 R] w fun e w' => e = .returned (.bool (insOk p R ⟨3, a, b, c, n⟩)) ∧ Ext w w' := by
  have HP := Lib.hid hp
  obtain ⟨v1, v2, rfl, ⟨hb, oa, cap, b0, o, rfl, hc1, hc2, hrow⟩, ⟨hf, ob, capb, b2, o2, rfl, hd1, hd2, hrow2⟩⟩ := hp
  have hlen := len_bd hc1 hc2
  have hlen2 := len_bd hd1 hd2
  have Hrow := Lib.hid hrow
  have hat := hrow.at_
  have r0 := fR.1; have r1 := fR.2
  have a0 := fa.1; have a1 := fa.2; have b00 := fb.1; have b01 := fb.2; have c0' := fc.1; have c1' := fc.2; have n0' := fn.1; have n1' := fn.2
  clear hc1 hc2 hd1 hd2 hrow hrow2 hb hf
  have Hgoal : ∀ r : Bool, Hid ((r = true ↔ insOk p R ⟨3, a, b, c, n⟩ = true) → insOk p R ⟨3, a, b, c, n⟩ = r) := fun r => Lib.hid fun h => by
    cases r <;> cases hh : insOk p R ⟨3, a, b, c, n⟩ <;> simp_all
  have Hins : Hid (insOk p R ⟨3, a, b, c, n⟩ = true ↔ (fok R 1 a = true ∧ fok R 1 b = true ∧ fok R 2 c = true) ∧ (0 ≤ c ∧ c < (p.regs.length : Int))) := Lib.hid (by
    simp only [fok_iff]
    unfold insOk; simp [okIn]
    try omega)
  go_enter Try.func100, Try.ntmps100
  go_wp2_with fail
  obtain ⟨W, g, hg, hW, hx, bA, bB⟩ := blocks2 w #[.slice oa p.regs.length cap, .slice ob p.code.length capb] #[.int .i64 3, .int .i64 a, .int .i64 b, .int .i64 c, .int .i64 n] 25 70
  rw [hW, hg]
  have X := Lib.hid hx
  clear hW hg hx
  have C := (shape_3 W)
  (with_reducible refine C.mono ?_)
  clear C
  rintro e w1 ⟨rfl, hw1⟩
  have bS : Blk w1 W.heap.size 3 #[.int .i64 1, .int .i64 1, .int .i64 2] := by rw [hw1]; exact Blk.new W _ _
  have h1 : Ext W w1 := by rw [hw1]; exact (Ext.refl W).alloc _
  clear hw1
  generalize W.heap.size = ks at *
  have bA := bA.ext h1
  have bB := bB.ext h1
  have X := Lib.hid (X.out.trans h1)
  clear h1
  have p0 : w1.cell? ⟨g, 0, none⟩ = some (.slice oa p.regs.length cap) := by rw [bA.cell]; rfl
  have p1 : w1.cell? ⟨g, 1, none⟩ = some (.slice ob p.code.length capb) := by rw [bA.cell]; rfl
  have e0 : w1.cell? ⟨g + 1, 0, none⟩ = some (.int .i64 3) := by rw [bB.cell]; rfl
  have e1 : w1.cell? ⟨g + 1, 1, none⟩ = some (.int .i64 a) := by rw [bB.cell]; rfl
  have e2 : w1.cell? ⟨g + 1, 2, none⟩ = some (.int .i64 b) := by rw [bB.cell]; rfl
  have e3 : w1.cell? ⟨g + 1, 3, none⟩ = some (.int .i64 c) := by rw [bB.cell]; rfl
  have e4 : w1.cell? ⟨g + 1, 4, none⟩ = some (.int .i64 n) := by rw [bB.cell]; rfl
  go_wp2_with fail
  obtain ⟨w2, hw2⟩ : ∃ w2, w2 = w1.alloc (.cells #[.int .i64 a, .int .i64 b, .int .i64 c] 3) := ⟨_, rfl⟩
  have bF : Blk w2 w1.heap.size 3 #[.int .i64 a, .int .i64 b, .int .i64 c] := by rw [hw2]; exact Blk.new w1 _ _
  have h2 : Ext w1 w2 := by rw [hw2]; exact (Ext.refl w1).alloc _
  rw [← hw2]
  clear hw2
  generalize w1.heap.size = kf at *
  have bA := bA.ext h2
  have bB := bB.ext h2
  have bS := bS.ext h2
  have X := Lib.hid (X.out.trans h2)
  clear h2 p0 p1 e0 e1 e2 e3 e4
  go_loopw [11] (fun i wr => ∃ j : Nat, j ≤ 3 ∧ i = .int .i64 j ∧ Ext w2 wr ∧ ∀ t, t < j → fok R (tri 1 1 2 t) (tri a b c t) = true) (fun i _ => 3 - (intOf i).toNat)
  case atStart => exact ⟨0, by omega, rfl, Ext.refl _, fun t ht => by omega⟩
  case round =>
    obtain ⟨j, hj, rfl, hE, hok⟩ := hrel
    have bA := bA.ext hE
    have bB := bB.ext hE
    have bS := bS.ext hE
    have bF := bF.ext hE
    have X := Lib.hid (X.out.trans hE)
    have HE := Lib.hid hE
    have Hok := Lib.hid hok
    clear hE hok
    by_cases hlt : j < 3
    · have hjj : j = 0 ∨ j = 1 ∨ j = 2 := by omega
      rcases hjj with rfl | rfl | rfl
      · have s0 : wr.cell? ⟨ks, 0, none⟩ = some (.int .i64 1) := by rw [bS.cell]; rfl
        have f0 : wr.cell? ⟨kf, 0, none⟩ = some (.int .i64 a) := by rw [bF.cell]; rfl
        by_cases hz : 0 ≤ a
        · by_cases hy : a < R
          · go_wp2
            go_roundw
            case rel => exact ⟨1, by omega, by first | rfl | go_num, HE.out, fun t ht => by
              rcases (show t < 0 ∨ t = 0 by omega) with h | h
              · exact Hok.out t h
              · subst h; exact fok_iff.2 ⟨fun h => absurd h (by decide), fun _ => ⟨hz, hy⟩⟩⟩
            case measure => simp [intOf]

          · go_wp2
            go_ret
            refine ⟨ret_b ?_, X.out⟩
            cases hh : insOk p R ⟨3, a, b, c, n⟩
            · rfl
            · exfalso
              have hq := Hins.out.1 hh
              (simp [fok_iff] at hq) <;> omega

        · go_wp2
          go_ret
          refine ⟨ret_b ?_, X.out⟩
          cases hh : insOk p R ⟨3, a, b, c, n⟩
          · rfl
          · exfalso
            have hq := Hins.out.1 hh
            (simp [fok_iff] at hq) <;> omega
      · have s0 : wr.cell? ⟨ks, 1, none⟩ = some (.int .i64 1) := by rw [bS.cell]; rfl
        have f0 : wr.cell? ⟨kf, 1, none⟩ = some (.int .i64 b) := by rw [bF.cell]; rfl
        by_cases hz : 0 ≤ b
        · by_cases hy : b < R
          · go_wp2
            go_roundw
            case rel => exact ⟨2, by omega, by first | rfl | go_num, HE.out, fun t ht => by
              rcases (show t < 1 ∨ t = 1 by omega) with h | h
              · exact Hok.out t h
              · subst h; exact fok_iff.2 ⟨fun h => absurd h (by decide), fun _ => ⟨hz, hy⟩⟩⟩
            case measure => simp [intOf]

          · go_wp2
            go_ret
            refine ⟨ret_b ?_, X.out⟩
            cases hh : insOk p R ⟨3, a, b, c, n⟩
            · rfl
            · exfalso
              have hq := Hins.out.1 hh
              (simp [fok_iff] at hq) <;> omega

        · go_wp2
          go_ret
          refine ⟨ret_b ?_, X.out⟩
          cases hh : insOk p R ⟨3, a, b, c, n⟩
          · rfl
          · exfalso
            have hq := Hins.out.1 hh
            (simp [fok_iff] at hq) <;> omega
      · have s0 : wr.cell? ⟨ks, 2, none⟩ = some (.int .i64 2) := by rw [bS.cell]; rfl
        have f0 : wr.cell? ⟨kf, 2, none⟩ = some (.int .i64 c) := by rw [bF.cell]; rfl
        go_wp2
        go_roundw
        case rel => exact ⟨3, by omega, by first | rfl | go_num, HE.out, fun t ht => by
          rcases (show t < 2 ∨ t = 2 by omega) with h | h
          · exact Hok.out t h
          · subst h; exact fok_iff.2 ⟨fun h => absurd h (by decide), fun h => absurd h (by decide)⟩⟩
        case measure => simp [intOf]
    · obtain rfl : j = 3 := by omega
      have k0 := Hok.out 0 (by omega)
      have k1 := Hok.out 1 (by omega)
      have k2 := Hok.out 2 (by omega)
      have K := Lib.hid (And.intro k0 (And.intro k1 k2))
      clear k0 k1 k2
      have p0 : wr.cell? ⟨g, 0, none⟩ = some (.slice oa p.regs.length cap) := by rw [bA.cell]; rfl
      have p1 : wr.cell? ⟨g, 1, none⟩ = some (.slice ob p.code.length capb) := by rw [bA.cell]; rfl
      have e0 : wr.cell? ⟨g + 1, 0, none⟩ = some (.int .i64 3) := by rw [bB.cell]; rfl
      have e1 : wr.cell? ⟨g + 1, 1, none⟩ = some (.int .i64 a) := by rw [bB.cell]; rfl
      have e2 : wr.cell? ⟨g + 1, 2, none⟩ = some (.int .i64 b) := by rw [bB.cell]; rfl
      have e3 : wr.cell? ⟨g + 1, 3, none⟩ = some (.int .i64 c) := by rw [bB.cell]; rfl
      have e4 : wr.cell? ⟨g + 1, 4, none⟩ = some (.int .i64 n) := by rw [bB.cell]; rfl
      by_cases q0 : 0 ≤ c
      · by_cases q1 : c < (p.regs.length : Int)
        · go_wp2
          go_ret
          exact ⟨ret_b (Hins.out.2 ⟨⟨K.out.1, K.out.2.1, K.out.2.2⟩, by first | trivial | omega⟩).symm, X.out⟩
        · have q1d : decide (c < (p.regs.length : Int)) = false := by simpa using q1
          go_wp2
          go_ret
          refine ⟨ret_b ?_, X.out⟩
          cases hh : insOk p R ⟨3, a, b, c, n⟩
          · rfl
          · exfalso
            have hq := Hins.out.1 hh
            (simp [fok_iff] at hq) <;> omega
      · have q0d : decide (0 ≤ c) = false := by simpa using q0
        go_wp2
        go_ret
        refine ⟨ret_b ?_, X.out⟩
        cases hh : insOk p R ⟨3, a, b, c, n⟩
        · rfl
        · exfalso
          have hq := Hins.out.1 hh
          (simp [fok_iff] at hq) <;> omega

end Go.Proofs.Yteiknefajlocoaa
