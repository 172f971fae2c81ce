/- Laid together from: CkW, Form5, Ck7. -/
import Derived.Test.YteiknefajlocoaaCheckSafeB11
import Derived.Test.YteiknefajlocoaaCheckSafeB12
import Derived.Test.YteiknefajlocoaaCheckSafeB3
import Derived.Test.YteiknefajlocoaaCheckSafeB4
import Derived.Deep.OwnRows

/- The checker's work list, plainly: what is known at every round, what grows less, and that the table is the least at its end. -/
namespace Go.Proofs.Yteiknefajlocoaa
open Go
set_option linter.unusedVariables false
set_option linter.unusedSimpArgs false

/-- what is known at a round: but for the instructions D, whatever is not in the work has been led on from -/
structure Work (p : LProg) (T : Tab) (wk : List Int) (D : Nat → Prop) : Prop where
  tok : Tok p T
  under : Under p T
  first : ∃ s, tg T 0 = some s ∧ Sle kstart s
  elems : ∀ x ∈ wk, ∃ k : Nat, x = (k : Int) ∧ k < p.code.length ∧ ∃ s, tg T k = some s
  done : ∀ k s, tg T k = some s → ¬ D k → (k : Int) ∉ wk → ∀ x ∈ leadsK p k s (insAt p k), Led p T x
structure Onward (p : LProg) (T : Tab) (wk : List Int) (T' : Tab) (wk' : List Int) : Prop where
  up : Tle T T'
  less : meas T' wk' ≤ meas T wk
  kept : ∀ j s, tg T j = some s → tg T' j = some s ∨ (j : Int) ∈ wk'
  sub : ∀ x ∈ wk, x ∈ wk'
theorem Onward.refl (p : LProg) (T : Tab) (wk : List Int) : Onward p T wk T wk := ⟨Tle.refl T, Nat.le_refl _, fun _ _ h => .inl h, fun _ h => h⟩
theorem Onward.trans {p : LProg} {T U V : Tab} {a b c : List Int} (h : Onward p T a U b) (k : Onward p U b V c) : Onward p T a V c :=
  ⟨h.up.trans k.up, Nat.le_trans k.less h.less, fun j s hj => by
    rcases h.kept j s hj with h1 | h1
    · exact k.kept j s h1
    · exact .inr (k.sub _ h1), fun x hx => k.sub x (h.sub x hx)⟩
/-- what is known rises with the table -/
theorem Work.rise {p : LProg} {T T' : Tab} {wk wk' : List Int} {D : Nat → Prop} (h : Work p T wk D) (hT : Tok p T') (hU : Under p T') (ho : Onward p T wk T' wk') (hb : ∀ j s, tg T' j = some s → tg T j = some s ∨ (j : Int) ∈ wk')
    (he : ∀ x ∈ wk', x ∈ wk ∨ ∃ k : Nat, x = (k : Int) ∧ k < p.code.length ∧ ∃ s, tg T' k = some s) : Work p T' wk' D := by
  refine ⟨hT, hU, ?_, fun x hx => ?_, fun k s hk hd hn x hx => ?_⟩
  · obtain ⟨s, h1, h2⟩ := h.first
    obtain ⟨t, h3, h4⟩ := ho.up 0 s h1
    exact ⟨t, h3, h2.trans h4⟩
  · rcases he x hx with h1 | h1
    · obtain ⟨k, e, h2, s, h3⟩ := h.elems x h1
      obtain ⟨t, h4, -⟩ := ho.up k s h3
      exact ⟨k, e, h2, t, h4⟩
    · exact h1
  · rcases hb k s hk with h1 | h1
    · exact (h.done k s h1 hd (fun h2 => hn (ho.sub _ h2)) x hx).mono ho.up
    · exact absurd h1 hn
/-- one lead -/
theorem lead_on {p : LProg} {T : Tab} {wk : List Int} {D : Nat → Prop} (h : Work p T wk D) {x : Nat × KSt} (hs : Sok x.2) (hU : x.1 < p.code.length → Under p (joinT T x)) :
    Work p (leadT p T x.1 x.2) (leadW p T wk x.1 x.2) D ∧ Onward p T wk (leadT p T x.1 x.2) (leadW p T wk x.1 x.2) ∧ Led p (leadT p T x.1 x.2) x := by
  unfold leadT leadW
  by_cases hn : p.code.length ≤ x.1
  · rw [if_pos hn, if_pos hn]
    exact ⟨h, Onward.refl _ _ _, fun hx => by omega⟩
  · rw [if_neg hn, if_neg hn]
    have hx : x.1 < p.code.length := by omega
    have hxT : x.1 < T.length := by rw [h.tok.len]; exact hx
    have hT := joinT_tok h.tok hs hx
    have hup := joinT_above h.tok hs hx
    have hled := joinT_led h.tok hs (x := x)
    have hget := fun j => joinT_get (T := T) (x := x) j hxT
    have hU := hU hx
    cases ht : tg T x.1 with
    | none =>
      simp only
      have hj : joinT T x = T.set x.1 (some x.2) := by unfold joinT; rw [ht]
      have hp := phi_set T x.1 (some x.2) hxT
      rw [ht] at hp
      have hm : meas (joinT T x) (wk ++ [(x.1 : Int)]) ≤ meas T wk := by
        rw [hj]
        unfold meas
        simp only [ph] at hp
        simp only [List.length_append, List.length_cons, List.length_nil]
        omega
      have ho : Onward p T wk (joinT T x) (wk ++ [(x.1 : Int)]) := ⟨hup, hm, fun j s hjs => by
        rw [hget j]
        by_cases e : j = x.1
        · subst e; right; simp
        · rw [if_neg e]; exact .inl hjs, fun y hy => by simp [hy]⟩
      refine ⟨h.rise hT hU ho (fun j s hjs => ?_) (fun y hy => ?_), ho, hled⟩
      · rw [hget j] at hjs
        by_cases e : j = x.1
        · subst e; right; simp
        · rw [if_neg e] at hjs; exact .inl hjs
      · simp only [List.mem_append, List.mem_cons, List.not_mem_nil, or_false] at hy
        rcases hy with hy | rfl
        · exact .inl hy
        · exact .inr ⟨x.1, rfl, hx, by rw [hget, if_pos rfl]; exact ⟨_, rfl⟩⟩
    | some t =>
      simp only
      have hj : joinT T x = T.set x.1 (some (sjoin x.2 t)) := by unfold joinT; rw [ht]
      have hto := h.tok.ok _ _ ht
      by_cases e : sjoin x.2 t = t
      · rw [if_pos e]
        have hjj : joinT T x = T := by rw [hj, e]; exact tg_same ht hxT
        rw [hjj] at hled ⊢
        exact ⟨h, Onward.refl _ _ _, hled⟩
      · rw [if_neg e]
        have hp := phi_set T x.1 (some (sjoin x.2 t)) hxT
        rw [ht] at hp
        have hjo := sjoin_ok x.2 t
        have hr := rank_mono t (sjoin x.2 t) (by rw [hto.len, hjo.len]) hto.ok hjo.ok (sjoin_le2 hto)
        have hlt : rank t < rank (sjoin x.2 t) := by
          rcases Nat.lt_or_ge (rank t) (rank (sjoin x.2 t)) with h1 | h1
          · exact h1
          · exact absurd (hr.2 (by omega)).symm e
        have hbd := rank_144 hjo
        have hm : meas (joinT T x) (wk ++ [(x.1 : Int)]) ≤ meas T wk := by
          rw [hj]
          unfold meas
          simp only [ph] at hp
          simp only [List.length_append, List.length_cons, List.length_nil]
          omega
        have ho : Onward p T wk (joinT T x) (wk ++ [(x.1 : Int)]) := ⟨hup, hm, fun j s hjs => by
          rw [hget j]
          by_cases e : j = x.1
          · subst e; right; simp
          · rw [if_neg e]; exact .inl hjs, fun y hy => by simp [hy]⟩
        refine ⟨h.rise hT hU ho (fun j s hjs => ?_) (fun y hy => ?_), ho, hled⟩
        · rw [hget j] at hjs
          by_cases e : j = x.1
          · subst e; right; simp
          · rw [if_neg e] at hjs; exact .inl hjs
        · simp only [List.mem_append, List.mem_cons, List.not_mem_nil, or_false] at hy
          rcases hy with hy | rfl
          · exact .inl hy
          · exact .inr ⟨x.1, rfl, hx, by rw [hget, if_pos rfl]; exact ⟨_, rfl⟩⟩
/-- all leads of an instruction -/
theorem leads_on {p : LProg} {at_ : Nat} {s : KSt} {D : Nat → Prop} (hs : Sok s) : ∀ (l : List (Nat × KSt)) (T : Tab) (wk : List Int), Work p T wk D → (∃ s', tg T at_ = some s' ∧ Sle s s') → (∀ x ∈ l, x ∈ leadsK p at_ s (insAt p at_)) →
    Work p (leadAll p l (T, wk)).1 (leadAll p l (T, wk)).2 D ∧ Onward p T wk (leadAll p l (T, wk)).1 (leadAll p l (T, wk)).2 ∧ ∀ x ∈ l, Led p (leadAll p l (T, wk)).1 x
  | [], T, wk, h, _, _ => ⟨h, Onward.refl _ _ _, fun x hx => by simp at hx⟩
  | x :: l, T, wk, h, hk, hl => by
    have hx := hl x (by simp)
    have hxs := leadsK_ok p at_ hs _ x hx
    obtain ⟨h1, h2, h3⟩ := lead_on h hxs (fun hn => joinT_under h.tok h.under hk hs hx hn)
    obtain ⟨s', e1, e2⟩ := hk
    obtain ⟨t, e3, e4⟩ := h2.up at_ s' e1
    obtain ⟨i1, i2, i3⟩ := leads_on hs l _ _ h1 ⟨t, e3, e2.trans e4⟩ (fun y hy => hl y (by simp [hy]))
    refine ⟨i1, h2.trans i2, fun y hy => ?_⟩
    simp only [List.mem_cons] at hy
    rcases hy with rfl | hy
    · exact h3.mono i2.up
    · exact i3 y hy
/-- a round -/
theorem work_round {p : LProg} {T : Tab} {wk : List Int} {at_ : Nat} {s : KSt} (h : Work p T (wk ++ [(at_ : Int)]) (fun _ => False)) (hs : tg T at_ = some s) :
    Work p (leadAll p (leadsK p at_ s (insAt p at_)) (T, wk)).1 (leadAll p (leadsK p at_ s (insAt p at_)) (T, wk)).2 (fun _ => False) ∧
    meas (leadAll p (leadsK p at_ s (insAt p at_)) (T, wk)).1 (leadAll p (leadsK p at_ s (insAt p at_)) (T, wk)).2 < meas T (wk ++ [(at_ : Int)]) := by
  have h0 : Work p T wk (fun k => k = at_) := ⟨h.tok, h.under, h.first, fun x hx => h.elems x (by simp [hx]), fun k s hk hd hn x hx => h.done k s hk id (by
    simp only [List.mem_append, List.mem_cons, List.not_mem_nil, or_false, not_or]
    exact ⟨hn, fun e => hd (by omega)⟩) x hx⟩
  obtain ⟨h1, h2, h3⟩ := leads_on (h.tok.ok _ _ hs) _ T wk h0 ⟨s, hs, Sle.refl s⟩ (fun x hx => hx)
  generalize leadAll p (leadsK p at_ s (insAt p at_)) (T, wk) = R at *
  refine ⟨⟨h1.tok, h1.under, h1.first, h1.elems, fun k u hk _ hn x hx => ?_⟩, ?_⟩
  · by_cases e : k = at_
    · subst e
      rcases h2.kept k s hs with h4 | h4
      · rw [hk] at h4
        obtain rfl := Option.some.inj h4
        exact h3 x hx
      · exact absurd h4 hn
    · exact h1.done k u hk e hn x hx
  · have := h2.less
    unfold meas at *
    simp only [List.length_append, List.length_cons, List.length_nil]
    omega
theorem work_least {p : LProg} {T : Tab} (h : Work p T [] (fun _ => False)) : Least p T := ⟨⟨h.tok, h.first, fun k s hk x hx => h.done k s hk id (by simp) x hx⟩, h.under⟩
theorem work_first (p : LProg) (hp : 0 < p.code.length) : Work p (firstT p) [((0 : Nat) : Int)] (fun _ => False) := by
  refine ⟨firstT_tok p hp, firstT_under p hp, ⟨kstart, by rw [firstT_get p hp, if_pos rfl], Sle.refl _⟩, fun x hx => ?_, fun k s hk _ hn x hx => ?_⟩
  · simp only [List.mem_cons, List.not_mem_nil, or_false] at hx
    exact ⟨0, hx, hp, kstart, by rw [firstT_get p hp, if_pos rfl]⟩
  · rw [firstT_get p hp] at hk
    split at hk
    · rename_i e; subst e; simp at hn
    · cases hk
theorem lead_first (p : LProg) (hp : 0 < p.code.length) : leadT p (List.replicate p.code.length none) 0 kstart = firstT p ∧ leadW p (List.replicate p.code.length none) [] 0 kstart = [((0 : Nat) : Int)] := by
  have h0 : tg (List.replicate p.code.length (none : Option KSt)) 0 = none := by
    unfold tg
    rw [List.getD_eq_getElem?_getD, List.getElem?_replicate, if_pos hp]
    rfl
  unfold leadT leadW
  rw [if_neg (by omega), if_neg (by omega), h0]
  refine ⟨?_, rfl⟩
  unfold joinT
  rw [h0]
  rfl
theorem meas_first (p : LProg) (hcl : p.code.length ≤ 200) : meas (firstT p) [((0 : Nat) : Int)] ≤ 87001 := by
  have := phi_le (firstT p)
  have hl : (firstT p).length = p.code.length := by simp [firstT]
  unfold meas
  simp only [List.length_cons, List.length_nil]
  omega
theorem work_last {wk : List Int} (h : 0 < wk.length) : ∃ wk' x, wk = wk' ++ [x] := by
  refine ⟨wk.dropLast, wk.getLast (by intro e; rw [e] at h; simp at h), ?_⟩
  exact (List.dropLast_concat_getLast _).symm
end Go.Proofs.Yteiknefajlocoaa
/- Walks of layout's look, May, Hard, Fits. -/
namespace Go.Proofs.Yteiknefajlocoaa
open Go.ChangeShapes Go.WideShapes Go.ChangeAt Go.RowKit
set_option linter.unusedVariables false
set_option linter.unusedSimpArgs false

theorem Rows.upd {w w' : World} {oa : Option Addr} {b o n c : Nat} {f : Nat → Nat → Value} {p : Addr} {v : Value} (h : Rows w oa b o n c f) (hp : p.block ≠ b) (hx : Ext (w.setCell p v) w') : Rows w' oa b o n c f :=
  ⟨h.at_, fun i j hi hj => upd_cell hx (by rintro rfl; exact hp rfl) (h.cell i j hi hj)⟩
theorem lt_of_rows {w : World} {oa : Option Addr} {b o n c : Nat} {f : Nat → Nat → Value} (h : Rows w oa b o n c f) (hn : 0 < n) (hc : 0 < c) : b < w.heap.size := by
  have := block_lt (h.cell 0 0 hn hc)
  exact this
/-- a slice of nothing may as well lie at any block -/
theorem Rows.away {w : World} {oa : Option Addr} {b o n c : Nat} {f : Nat → Nat → Value} (h : Rows w oa b o n c f) (hc : 0 < c) (g : Nat) (hg : w.heap.size ≤ g) : ∃ b', b' ≠ g ∧ Rows w oa b' o n c f := by
  by_cases hn : 0 < n
  · exact ⟨b, by have := lt_of_rows h hn hc; omega, h⟩
  · refine ⟨g + 1, by omega, ⟨fun h0 => absurd h0 hn, fun i j hi hj => by omega⟩⟩
theorem one_le_cast (n : Nat) : decide (1 ≤ n) = decide ((1 : Int) ≤ (n : Int)) := by rw [Bool.eq_iff_iff]; simp; omega
set_option maxHeartbeats 4000000 in
theorem look_c (p : LProg) (v : Value) (most R : Int) (hm : R64 most) (hRr : R64 R) (w : World) (hp : ProgAt w v p) :
    Calls Try.prog 86 #[v, .int .i64 most, .int .i64 R] w fun e w' => e = .returned (.bool (progOk p most R)) ∧ Ext w w' := by
  have hp' := hp
  obtain ⟨v1, v2, rfl, ⟨hb, oa, cap, b, o, rfl, hc1, hc2, hrow⟩, ⟨hf, ob, capb, b2, o2, rfl, hd1, hd2, hrow2⟩⟩ := hp
  have HP := Lib.hid hp'
  have hm0 := hm.1
  have hm1 := hm.2
  have Hrow := Lib.hid hrow
  have Hrow2 := Lib.hid hrow2
  have hlen := len_bd hc1 hc2
  have hlen2 := len_bd hd1 hd2
  have hix := index_code (cap := capb) hrow2.at_
  clear hrow hrow2 hc1 hc2 hd1 hd2 hp'
  go_enter Try.func86, Try.ntmps86
  go_upto_region 1 with fail
  obtain ⟨w0, g, hg, hW, hx, c0, c1⟩ := new2 w 25 (.slice oa p.regs.length cap) (.slice ob p.code.length capb)
  rw [hW, hg]
  have X0 := Lib.hid hx
  clear hW hx
  have hgs : w.heap.size ≤ g := by omega
  clear hg
  obtain ⟨ok0, Hok0⟩ : ∃ b : Bool, Hid (b = (regsOk p.regs && decide ((1 : Int) ≤ (p.code.length : Int)) && decide ((p.code.length : Int) ≤ most))) := ⟨_, Lib.hid rfl⟩
  go_cut [7] (fun s7 wx => ∃ k : Nat, s7 = .pointer (some ⟨k, 0, none⟩) ∧ w0.heap.size ≤ k ∧ Ext w0 wx ∧ Blk wx k 157 #[.slice oa p.regs.length cap, .slice ob p.code.length capb, .int .i64 R, .bool ok0])
  case first =>
    have k0 : ∀ W, Ext w0 W → W.cell? ⟨g, 0, none⟩ = some (.slice oa p.regs.length cap) := fun _ h => h.kept c0.1
    have k1 : ∀ W, Ext w0 W → W.cell? ⟨g, 1, none⟩ = some (.slice ob p.code.length capb) := fun _ h => h.kept c1.1
    have HC : ∀ W, Ext w0 W → Hid (Calls Try.prog 121 #[.agg #[.slice oa p.regs.length cap, .slice ob p.code.length capb]] W fun e w' => e = .returned (.bool (regsOk p.regs)) ∧ Ext W w') := fun W h => Lib.hid (regions_c p _ W (HP.out.ext (X0.out.trans h)))
    refine region_fresh 19 18 (some 28) (by decide) rfl (by kernel_rfl) (by kernel_rfl) (fun k => .pointer (some ⟨k, 0, none⟩)) 157 #[.slice oa p.regs.length cap, .slice ob p.code.length capb, .int .i64 R, .bool ok0] ?_
    simp only [List.take_succ_cons, List.take_zero, List.drop_succ_cons, List.drop_zero]
    cases hr : regsOk p.regs
    · have hk0 : ok0 = false := by rw [Hok0.out, hr]; rfl
      rw [hr] at HC
      clear hr Hok0
      subst hk0
      repeat (first | (refine calm_fresh ?_ ?_ (fun wc hE => ?_) ?_; (decide); rfl; (focus (go_simp; done)); go_simp) | (refine calm_value ?_ ?_ ?_; (decide); (first | rfl | (focus (go_simp; done))); apply Exists.intro; refine ⟨fun wc hE => ?_, ?_⟩; (go_simp; exact rfl); go_simp) | (refine calm_call ?_ ?_ ?_; (decide); (first | rfl | (focus (go_simp; done))); apply Exists.intro; refine ⟨fun wc hE => ?_, ?_⟩; (go_simp; (first | (with_reducible exact calm_enter ((HC _ ‹_›).out)))); go_simp) | (refine calm_skip ?_ ?_ ?_; (decide); (focus (go_simp; done)); go_simp))
      refine calm_nil ?_
      intro k wx hk hB hE
      go_wp2
      go_meet
      exact ⟨k, rfl, hk, hE, hB⟩
    · rw [hr] at HC
      by_cases h1 : (1 : Int) ≤ (p.code.length : Int)
      · by_cases h2 : (p.code.length : Int) ≤ most
        · have hk0 : ok0 = true := by rw [Hok0.out, hr]; simp [h1, h2]
          clear hr Hok0
          subst hk0
          repeat (first | (refine calm_fresh ?_ ?_ (fun wc hE => ?_) ?_; (decide); rfl; (focus (go_simp; done)); go_simp) | (refine calm_value ?_ ?_ ?_; (decide); (first | rfl | (focus (go_simp; done))); apply Exists.intro; refine ⟨fun wc hE => ?_, ?_⟩; (go_simp; exact rfl); go_simp) | (refine calm_call ?_ ?_ ?_; (decide); (first | rfl | (focus (go_simp; done))); apply Exists.intro; refine ⟨fun wc hE => ?_, ?_⟩; (go_simp; (first | (with_reducible exact calm_enter ((HC _ ‹_›).out)))); go_simp) | (refine calm_skip ?_ ?_ ?_; (decide); (focus (go_simp; done)); go_simp))
          refine calm_nil ?_
          intro k wx hk hB hE
          go_wp2
          go_meet
          exact ⟨k, rfl, hk, hE, hB⟩
        · have hk0 : ok0 = false := by rw [Hok0.out, hr]; simp [h1, h2]
          have h2' : decide ((p.code.length : Int) ≤ most) = false := by simpa using h2
          clear hr Hok0 h2
          subst hk0
          repeat (first | (refine calm_fresh ?_ ?_ (fun wc hE => ?_) ?_; (decide); rfl; (focus (go_simp; done)); go_simp) | (refine calm_value ?_ ?_ ?_; (decide); (first | rfl | (focus (go_simp; done))); apply Exists.intro; refine ⟨fun wc hE => ?_, ?_⟩; (go_simp; exact rfl); go_simp) | (refine calm_call ?_ ?_ ?_; (decide); (first | rfl | (focus (go_simp; done))); apply Exists.intro; refine ⟨fun wc hE => ?_, ?_⟩; (go_simp; (first | (with_reducible exact calm_enter ((HC _ ‹_›).out)))); go_simp) | (refine calm_skip ?_ ?_ ?_; (decide); (focus (go_simp; done)); go_simp))
          refine calm_nil ?_
          intro k wx hk hB hE
          go_wp2
          go_meet
          exact ⟨k, rfl, hk, hE, hB⟩
      · have hk0 : ok0 = false := by rw [Hok0.out, hr]; simp [h1]
        have h1' : decide ((1 : Int) ≤ (p.code.length : Int)) = false := by simpa using h1
        clear hr Hok0 h1
        subst hk0
        repeat (first | (refine calm_fresh ?_ ?_ (fun wc hE => ?_) ?_; (decide); rfl; (focus (go_simp; done)); go_simp) | (refine calm_value ?_ ?_ ?_; (decide); (first | rfl | (focus (go_simp; done))); apply Exists.intro; refine ⟨fun wc hE => ?_, ?_⟩; (go_simp; exact rfl); go_simp) | (refine calm_call ?_ ?_ ?_; (decide); (first | rfl | (focus (go_simp; done))); apply Exists.intro; refine ⟨fun wc hE => ?_, ?_⟩; (go_simp; (first | (with_reducible exact calm_enter ((HC _ ‹_›).out)))); go_simp) | (refine calm_skip ?_ ?_ ?_; (decide); (focus (go_simp; done)); go_simp))
        refine calm_nil ?_
        intro k wx hk hB hE
        go_wp2
        go_meet
        exact ⟨k, rfl, hk, hE, hB⟩
  case rest =>
  obtain ⟨k, rfl, hk, hE, hB⟩ := hcut
  have g0 : wc.cell? ⟨k, 0, none⟩ = some (.slice oa p.regs.length cap) := by rw [hB.cell]; rfl
  have g1 : wc.cell? ⟨k, 1, none⟩ = some (.slice ob p.code.length capb) := by rw [hB.cell]; rfl
  have g2 : wc.cell? ⟨k, 2, none⟩ = some (.int .i64 R) := by rw [hB.cell]; rfl
  have g3 : wc.cell? ⟨k, 3, none⟩ = some (.bool ok0) ∧ wc.frozen? ⟨k, 3, none⟩ = false := ⟨by rw [hB.cell]; rfl, hB.frozen 3⟩
  have c0 := kept2 hE c0
  have c1 := kept2 hE c1
  have XC := Lib.hid (X0.out.trans hE)
  have hks : w.heap.size ≤ k := Nat.le_trans X0.out.size hk
  obtain ⟨b', hb', hR'⟩ := Hrow.out.away (by omega) k hks
  have HR := Lib.hid (hR'.ext XC.out)
  clear hB hE hk hR'
  go_wp2_with fail
  go_loopw [32] (fun i wr => ∃ j : Nat, j ≤ p.code.length ∧ i = .int .i64 j ∧ Ext (wc.setCell ⟨k, 3, none⟩ (.bool (ok0 && (p.code.take j).all (insOk p R)))) wr) (fun i _ => p.code.length - (intOf i).toNat)
  case atStart => exact ⟨0, by omega, rfl, by simpa using upd_refl g3.1 (Ext.refl _)⟩
  case round =>
    obtain ⟨j, hj, rfl, hr⟩ := hrel
    have r0 := upd_cell hr (by simp) g0
    have r1 := upd_cell hr (by simp) g1
    have r2 := upd_cell hr (by simp) g2
    have r3 := upd_same hr g3
    have Hr := Lib.hid hr
    have EW := Lib.hid (upd_new hr XC.out hks)
    clear hr
    by_cases hlt : j < p.code.length
    · obtain ⟨e0, e1, e2, e3, e4⟩ := (Hrow2.out.ext EW.out).ins j hlt
      have hfi := hf _ (getD_mem hlt)
      have Hs := Lib.hid (take_and (insOk p R) p.code j default hlt ok0)
      have Hfalse := Lib.hid (all_false (insOk p R) p.code j default hlt)
      generalize p.code.getD j default = i at *
      obtain ⟨okj, Hokj⟩ : ∃ b : Bool, Hid (b = (ok0 && (p.code.take j).all (insOk p R))) := ⟨_, Lib.hid rfl⟩
      rw [← Hokj.out] at r3 Hr Hs
      have hkl : k < wr.heap.size := block_lt r3.1
      cases okj
      · go_wp2
        go_ret
        refine ⟨ret_b ?_, EW.out.alloc _⟩
        have hz := Hokj.out
        have ht : (ok0 && p.code.all (insOk p R)) = false := by
          rw [← List.take_append_drop j p.code, List.all_append, ← Bool.and_assoc, ← hz]; rfl
        unfold progOk
        rw [← ht, Hok0.out]
        rw [one_le_cast]
      · have hreg : true = true → ∀ r ∈ p.regs, 0 ≤ r.log ∧ r.log ≤ 6 := fun _ => by
          have hz := Hokj.out.symm
          rw [Hok0.out] at hz
          simp only [Bool.and_eq_true] at hz
          have h1 := hz.1.1.1
          simp only [regsOk, Bool.and_eq_true, List.all_eq_true] at h1
          intro r hr
          have := h1.1 r hr
          simpa [regOk] using this
        have hA := (Ext.refl wr).alloc (.cells #[.int .i64 i.op, .int .i64 i.a, .int .i64 i.b, .int .i64 i.c, .int .i64 i.n] 70)
        have C := ins_c k oa cap ob capb R true p i hfi (wr.alloc (.cells #[.int .i64 i.op, .int .i64 i.a, .int .i64 i.b, .int .i64 i.c, .int .i64 i.n] 70)) b' o (Ne.symm hb') ((HR.out.upd (Ne.symm hb') Hr.out).ext hA) hreg (hA.kept r0) (hA.kept r1) (hA.kept r2) (kept2 hA r3)
        have HC := Lib.hid C
        clear C hA hreg
        go_wp2_with fail
        (with_reducible refine HC.out.mono ?_)
        rintro e' w2 ⟨rfl, hx⟩
        have hfin := Lib.hid (upd_trans Hr.out (upd_after ((Ext.refl wr).alloc _) hx))
        rw [← Hs.out] at hfin
        clear hx HC
        go_wp2
        go_roundw
        case rel => exact ⟨j + 1, by omega, by go_num, hfin.out⟩
        case measure => first | (simp [intOf]; done) | (simp [intOf]; omega)
    · have hje : j = p.code.length := by omega
      subst hje
      rw [List.take_length] at r3
      go_wp2
      go_ret
      refine ⟨ret_b ?_, EW.out⟩
      unfold progOk
      rw [Hok0.out]
      rw [one_le_cast]

theorem may_c (p : LProg) (v : Value) (w : World) (hp : ProgAt w v p) :
    Calls Try.prog 50 #[v] w fun e w' => e = .returned (.bool (mayOk p)) ∧ Ext w w' := by
  have HP := Lib.hid hp
  obtain ⟨v1, v2, rfl, -⟩ := hp
  go_enter Try.func50, Try.ntmps50
  go_wp2_with fail
  have hA := (Ext.refl w).alloc (.cells #[v1, v2] 25)
  have C := look_c p _ 200 8 (by unfold R64; omega) (by unfold R64; omega) _ (HP.out.ext hA)
  (with_reducible refine C.mono ?_)
  rintro e w1 ⟨rfl, hx⟩
  have HX := Lib.hid (hA.trans hx)
  clear hx hA C
  go_wp2
  go_ret
  exact ⟨rfl, HX.out⟩
theorem hard_c (p : LProg) (v : Value) (w : World) (hp : ProgAt w v p) :
    Calls Try.prog 103 #[v] w fun e w' => e = .returned (.bool (hardOk p)) ∧ Ext w w' := by
  have HP := Lib.hid hp
  obtain ⟨v1, v2, rfl, -⟩ := hp
  go_enter Try.func103, Try.ntmps103
  go_wp2_with fail
  have hA := (Ext.refl w).alloc (.cells #[v1, v2] 25)
  have C := look_c p _ 8000 10 (by unfold R64; omega) (by unfold R64; omega) _ (HP.out.ext hA)
  (with_reducible refine C.mono ?_)
  rintro e w1 ⟨rfl, hx⟩
  have HX := Lib.hid (hA.trans hx)
  clear hx hA C
  go_wp2
  go_ret
  exact ⟨rfl, HX.out⟩
end Go.Proofs.Yteiknefajlocoaa
/- Walk of check.Check. -/
namespace Go.Proofs.Yteiknefajlocoaa
open Go.ChangeShapes Go.WideShapes Go.ChangeAt Go.RowKit
set_option linter.unusedVariables false
set_option linter.unusedSimpArgs false

theorem ck_index (k n cap : Nat) (W : World) (i : Int) (h0 : 0 ≤ i) (h1 : i < n) :
    (Instr.indexAt 51 (.slice (some ⟨k, 0, none⟩) n cap) (.int .i64 i)).run Try.prog W = .ok (.pointer (some ⟨k, i.toNat, none⟩)) W := by
  have hs : (Try.prog.info? 3).map (·.size) = some 1 := by kernel_rfl
  simp [Instr.indexAt, run_underlying Try.underlying51, asIntOf, h0, h1]
  have := addr_add k 0 i.toNat
  simpa using this
theorem ck_own_at {w : World} {B : Nat} {e : TypeId} {v : Value} {n : Nat} {xs : List Value} (h : w.ownsRow B e 1 v n xs) (hn : 0 < n) : ∃ k cap, v = .slice (some ⟨k, 0, none⟩) n cap ∧ B ≤ k ∧ ∀ j x, j < n → xs[j]? = some x → w.cell? ⟨k, j, none⟩ = some x ∧ w.frozen? ⟨k, j, none⟩ = false := by
  have h' := h
  rcases h.2 with ⟨-, h0⟩ | ⟨k, cap, cur, rfl, a1, a2, a3⟩
  · omega
  · exact ⟨k, cap, rfl, a1, fun j x hj hx => ⟨by rw [h'.cellAt j (by omega), hx], h'.frozenAt j⟩⟩
theorem ck_own_cap {w : World} {B k n cap : Nat} {e : TypeId} {s : Nat} {xs : List Value} (h : w.ownsRow B e s (.slice (some ⟨k, 0, none⟩) n cap) n xs) : n ≤ cap ∧ cap ≤ maxLen := by
  rcases h.2 with ⟨h0, -⟩ | ⟨k', cap', cur, hh, a1, a2, a3, a4, -⟩
  · cases h0
  · simp only [Value.slice.injEq, Option.some.injEq, Addr.mk.injEq, and_true, true_and] at hh
    obtain ⟨rfl, rfl⟩ := hh
    exact ⟨a3, a4⟩
theorem own_pop {w : World} {B n cap : Nat} {oa : Option Addr} {e : TypeId} {xs : List Value} {x : Value} (h : w.ownsRow B e 1 (.slice oa (n + 1) cap) (n + 1) (xs ++ [x])) : w.ownsRow B e 1 (.slice oa n cap) n xs := by
  obtain ⟨h0, h⟩ := h
  have hl : xs.length = n := by simp at h0; omega
  refine ⟨by omega, ?_⟩
  rcases h with ⟨h1, h2⟩ | ⟨g, c, cur, h1, h2, h3, h4, h5, h6, h7⟩
  · omega
  · simp only [Value.slice.injEq, true_and] at h1
    obtain ⟨rfl, rfl⟩ := h1
    refine .inr ⟨g, cap, cur, rfl, h2, h3, by omega, h5, h6, ?_⟩
    have h8 : (cur.toList.take ((n + 1) * 1)).take n = (xs ++ [x]).take n := by rw [h7]
    rw [List.take_take, Nat.mul_one, Nat.min_eq_left (by omega), List.take_append_of_le_length (by omega), List.take_of_length_le (l := xs) (by omega)] at h8
    rw [Nat.mul_one]
    exact h8
theorem CSt.pop {w : World} {B g ks n cap : Nat} {vR vC : Value} {oa : Option Addr} {p : LProg} {T : Tab} {wk : List Int} {x : Int} (h : CSt w B g ks vR vC (.slice oa (n + 1) cap) p T (wk ++ [x])) (hn : wk.length = n) :
    CSt (w.setCell ⟨g, 3, none⟩ (.slice oa n cap)) B g ks vR vC (.slice oa n cap) p T wk := by
  have ho := h.wk
  have hl : (wk ++ [x]).length = n + 1 := by simp [hn]
  rw [hl, List.map_append] at ho
  have ho := own_pop ho
  have hne : some g ≠ (Value.slice oa n cap).ownBlock := own_ne ho h.box (by decide)
  refine ⟨h.box.set_ 3 _, h.row.far (p := ⟨g, 3, none⟩) h.box (by decide) (by decide) _, ?_, h.tok, h.hg, h.hk⟩
  rw [hn]
  exact own_far ho hne _
theorem least_some {P : Nat → Prop} (h : ∃ n, P n) : ∃ n, P n ∧ ∀ m, P m → n ≤ m := by
  obtain ⟨n, hn⟩ := h
  induction n using Nat.strongRecOn with
  | ind n ih =>
    by_cases hs : ∃ m, m < n ∧ P m
    · obtain ⟨m, h1, h2⟩ := hs
      exact ih m h1 h2
    · exact ⟨n, hn, fun m hm => by
        rcases Nat.lt_or_ge m n with h1 | h1
        · exact absurd ⟨m, h1, hm⟩ hs
        · exact h1⟩
theorem mu_ex (P : World → Nat → Prop) : ∃ mu : World → Nat, ∀ w n, P w n → P w (mu w) ∧ mu w ≤ n := by
  refine ⟨fun w => Classical.epsilon fun n => P w n ∧ ∀ m, P w m → n ≤ m, fun w n h => ?_⟩
  have := Classical.epsilon_spec (least_some ⟨n, h⟩)
  exact ⟨this.1, this.2 n h⟩
/-- what is known at a round of the checker's loop; n: what grows less -/
def Rnd (p : LProg) (w0 : World) (g ks : Nat) (vR vC : Value) (w : World) (n : Nat) : Prop :=
  ∃ (T : Tab) (wk : List Int) (vK : Value), meas T wk = n ∧ n ≤ 87001 ∧ Work p T wk (fun _ => False) ∧ CSt w w0.heap.size g ks vR vC vK p T wk ∧ Ext w0 w
def CheckPost (p : LProg) (w : World) (e : Ending) (w' : World) : Prop :=
  ∃ F : Int × Nat, e = .returned (.agg #[.int .i64 F.1, .int .i64 (F.2 : Int)]) ∧ Ext w w' ∧ (mayOk p = true → ∃ T, Least p T ∧ F = faultOf p T) ∧ (mayOk p = false → F = (2, 0))
theorem faultFrom_beyond (p : LProg) (T : Tab) (k : Nat) : faultFrom p T 0 k = (0, 0) := rfl
theorem faultFrom_nil {p : LProg} {T : Tab} {n k : Nat} (h : tg T k = none) : faultFrom p T (n + 1) k = faultFrom p T n (k + 1) := by rw [faultFrom, h]
theorem faultFrom_some {p : LProg} {T : Tab} {n k : Nat} {s : KSt} (h : tg T k = some s) : faultFrom p T (n + 1) k = if !boundK p k s (insAt p k) then (4, k) else if !quietK p s (insAt p k) then (5, k) else faultFrom p T n (k + 1) := by rw [faultFrom, h]
theorem infoFault : (Try.prog.info? 28).map (·.size) = some 2 := by kernel_rfl
theorem infoPtr : (Try.prog.info? 81).map (fun i => (i.zero, i.size, i.bytes)) = some (some (.pointer none), 1, 8) := by kernel_rfl
theorem ptr_nil (k : Nat) (w : World) : (binOp .eql 81 (.pointer (some ⟨k, 0, none⟩)) (.pointer none)).run Try.prog w = .ok (.bool false) w := by
  first | (kernel_rfl; done) | (go_simp; done)
theorem flt_put {w : World} {g : Nat} {T : TypeId} {a b x y : Value} (h : Blk w g T #[a, b]) : Blk ((w.setCell ⟨g, 0, none⟩ x).setCell ⟨g, 1, none⟩ y) g T #[x, y] := (h.set_ 0 x).set_ 1 y
theorem flt_ext {w w1 : World} {g : Nat} {x y : Value} (h : Ext w w1) (hg : w.heap.size ≤ g) : Ext w ((w1.setCell ⟨g, 0, none⟩ x).setCell ⟨g, 1, none⟩ y) := (h.setCell hg _).setCell hg _
theorem row_none (w : World) (k n B : Nat) (hb : Blk w k 81 (madeCells #[.pointer none] n)) : RowAt w B k n (List.replicate n none) := by
  refine ⟨_, hb, by simp [madeCells], fun j hj => ?_⟩
  have : tg (List.replicate n (none : Option KSt)) j = none := by
    unfold tg
    rw [List.getD_eq_getElem?_getD, List.getElem?_replicate, if_pos hj]
    rfl
  rw [this]
  simp [madeCells, hj, Nat.mod_one]
set_option maxRecDepth 100000 in
set_option maxHeartbeats 8000000 in
theorem check_c (p : LProg) (v : Value) (w : World) (hp : ProgAt w v p) : Calls Try.prog 23 #[v] w (CheckPost p w) := by
  have HP := Lib.hid hp
  obtain ⟨oa, capa, oc, capc, rfl⟩ : ∃ a b c d, v = .agg #[.slice a p.regs.length b, .slice c p.code.length d] := by
    obtain ⟨v1, v2, rfl, ⟨-, oa, cap, b, o, rfl, -⟩, ⟨-, ob, capb, b2, o2, rfl, -⟩⟩ := hp
    exact ⟨_, _, _, _, rfl⟩
  clear hp
  go_enter Try.func23, Try.ntmps23
  go_upto_region 1 with fail
  obtain ⟨W, gb, hg, hW, hx, bP, bF⟩ := blocks2 w #[.slice oa p.regs.length capa, .slice oc p.code.length capc] #[.int .i64 0, .int .i64 0] 25 28
  rw [hW, hg]
  have X := Lib.hid hx
  have hgb : w.heap.size ≤ gb := by omega
  have Hgb := Lib.hid hgb
  have p0 : W.cell? ⟨gb, 0, none⟩ = some (.slice oa p.regs.length capa) := by rw [bP.cell]; rfl
  have p1 : W.cell? ⟨gb, 1, none⟩ = some (.slice oc p.code.length capc) := by rw [bP.cell]; rfl
  clear hW hg hx
  go_wp2_with fail
  have C := may_c p _ W (HP.out.ext X.out)
  (with_reducible refine C.mono ?_)
  clear C
  rintro e w1 ⟨rfl, hx⟩
  have bP := bP.ext hx
  have bF := bF.ext hx
  have X := Lib.hid (X.out.trans hx)
  have p0 := hx.kept p0
  have p1 := hx.kept p1
  have f0 : w1.cell? ⟨gb + 1, 0, none⟩ = some (.int .i64 0) ∧ w1.frozen? ⟨gb + 1, 0, none⟩ = false := ⟨by rw [bF.cell]; rfl, bF.frozen _⟩
  have f1 : w1.cell? ⟨gb + 1, 1, none⟩ = some (.int .i64 0) ∧ w1.frozen? ⟨gb + 1, 1, none⟩ = false := ⟨by rw [bF.cell]; rfl, bF.frozen _⟩
  have hgl := bF.lt
  clear hx hgb
  cases hmay : mayOk p
  · have BF := Lib.hid bF
    have BP := Lib.hid bP
    clear bF bP
    go_wp2
    exact bodyPost_ret (results_blk (flt_put BF.out) rfl _ rfl Try.underlying28 rfl infoFault) rfl ⟨(2, 0), rfl, flt_ext X.out (by have := Hgb.out; omega), fun h => (by rw [hmay] at h; cases h), fun _ => rfl⟩
  · obtain ⟨hr, hc1, hcl, hins⟩ := may_parts hmay
    have Hr := Lib.hid hr
    have Hins := Lib.hid hins
    have Hmay := Lib.hid hmay
    have hmk : ∀ wx, (Instr.makeSlice 73 (.int .i64 (p.code.length : Int)) (.int .i64 (p.code.length : Int))).run Try.prog wx = .ok (.slice (some ⟨wx.heap.size, 0, none⟩) p.code.length p.code.length) (wx.alloc (.cells (madeCells #[.pointer none] p.code.length) 81)) := fun wx =>
      run_make_row' (P := Try.prog) 73 81 (.pointer none) 8 Try.underlying73 infoPtr rfl .i64 .i64 p.code.length (by omega) (by omega) wx
    clear hr hins hmay
    go_upto_region 3 with fail
    have kp0 : ∀ W, Ext w1 W → W.cell? ⟨gb, 0, none⟩ = some (.slice oa p.regs.length capa) := fun _ h => h.kept p0
    have kp1 : ∀ W, Ext w1 W → W.cell? ⟨gb, 1, none⟩ = some (.slice oc p.code.length capc) := fun _ h => h.kept p1
    have BF := Lib.hid bF
    have BP := Lib.hid bP
    clear f0 f1 bF bP
    refine region_float [4, 5, 6, 7] 3 (by kernel_rfl) (by kernel_rfl) ?_
    repeat (first | (refine cw_heavy ?_ ?_; (decide)) | (refine cw_value ?_ ?_ ?_; (decide); (first | rfl | (focus (go_simp; done))); apply Exists.intro; refine ⟨fun wc hE => ?_, ?_⟩; (go_simp; exact rfl); go_simp) | (refine cw_skip ?_ ?_ ?_; (decide); (focus (go_simp; done)); go_simp))
    refine cw_nil ?_
    intro w2 hx
    clear kp0 kp1 p0 p1
    refine wpF_soft rfl ?_
    go_wp2
    refine ⟨hx.alloc _, ?_⟩
    refine wpF_soft rfl ?_
    go_wp2
    refine ⟨hx.alloc _, ?_⟩
    refine wpF_soft rfl ?_
    go_wp2
    refine ⟨(hx.alloc _).alloc _, ?_⟩
    refine wpF_hard (heavies_cons rfl heavies_nil) ?_
    obtain ⟨w3, hw3, hP3⟩ : ∃ w3, ((w2.alloc (.cells (madeCells #[.pointer none] p.code.length) 81)).alloc (.cells #[.slice oa p.regs.length capa, .slice oc p.code.length capc, .slice (some ⟨w2.heap.size, 0, none⟩) p.code.length p.code.length, .slice none 0 0] 75)) = w3 ∧
        CSt w3 w1.heap.size (w2.heap.size + 1) w2.heap.size (.slice oa p.regs.length capa) (.slice oc p.code.length capc) (.slice none 0 0) p (List.replicate p.code.length none) [] ∧ Ext w1 w3 := by
      have hz := hx.size
      have b1 := Blk.new w2 81 (madeCells #[.pointer none] p.code.length)
      refine ⟨_, rfl, ⟨?_, row_none _ _ _ _ (b1.alloc _), World.ownsRow_nil _ _ _ _, ⟨by simp, fun k s hk => ?_⟩, by omega, by omega⟩, (hx.alloc _).alloc _⟩
      · have := Blk.new (w2.alloc (.cells (madeCells #[.pointer none] p.code.length) 81)) 75 #[.slice oa p.regs.length capa, .slice oc p.code.length capc, .slice (some ⟨w2.heap.size, 0, none⟩) p.code.length p.code.length, .slice none 0 0]
        simpa using this
      · exfalso
        unfold tg at hk
        rw [List.getD_eq_getElem?_getD, List.getElem?_replicate] at hk
        split at hk <;> cases hk
    have hP3 := Lib.hid hP3
    try rw [hw3]
    clear hw3
    generalize w2.heap.size = ks at *
    generalize ks + 1 = g at *
    clear hx hmk
    have hk8 : kstart.length = 8 := rfl
    have Hcl := Lib.hid hcl
    go_wp2_with fail
    rw [st0]
    have C := lead_c p 0 kstart kstart_ok hcl (by simp) w3 hP3.out.1
    have e00 : ((0 : Nat) : Int) = 0 := rfl
    rw [e00] at C
    (with_reducible refine C.mono ?_)
    clear C
    rintro e w4 ⟨rfl, vK, P4, T4⟩
    have hl1 := lead_first p hc1
    rw [hl1.1, hl1.2] at P4
    have E4 := Lib.hid (Below.trans hP3.out.2 (lead_below hP3.out.1 T4))
    have P4 := Lib.hid P4
    clear T4 hl1 hP3
    obtain ⟨mu, hmu⟩ := mu_ex (Rnd p w1 g ks (.slice oa p.regs.length capa) (.slice oc p.code.length capc))
    have Hmu := Lib.hid hmu
    clear hmu
    go_wp2_with fail
    go_loopw [] (fun wr => ∃ n, Rnd p w1 g ks (.slice oa p.regs.length capa) (.slice oc p.code.length capc) wr n) (fun wr => mu wr)
    case atStart => exact ⟨_, _, _, _, rfl, meas_first p hcl, work_first p (by omega), P4.out, E4.out⟩
    case round =>
      obtain ⟨n0, hn0⟩ := hrel
      obtain ⟨T, wk, vK, hm, hmb, hw, P, hE⟩ := (Hmu.out wr n0 hn0).1
      clear hn0
      have PP := Lib.hid P
      have XE := Lib.hid hE
      have HW := Lib.hid hw
      have Hm := Lib.hid hm
      have Hmb := Lib.hid hmb
      have hwl : wk.length ≤ 87001 := by unfold meas at hm; omega
      obtain ⟨-, -, g2, g3⟩ := P.cells
      have hgl2 := P.box.lt
      by_cases hne : 0 < wk.length
      · obtain ⟨wk', x, rfl⟩ := work_last hne
        obtain ⟨k, rfl, hk, s, hs⟩ := hw.elems x (by simp)
        have hl : (wk' ++ [(k : Int)]).length = wk'.length + 1 := by simp
        obtain ⟨kb, capb, hvb, hkb, hcs⟩ := ck_own_at P.wk hne
        obtain ⟨hx0, -⟩ := hcs wk'.length (.int .i64 (k : Int)) (by omega) (by simp)
        subst hvb
        have hcap := ck_own_cap P.wk
        rw [hl] at g3 hcap hwl
        have P := PP.out
        rw [hl] at P
        have Hs := Lib.hid hs
        obtain ⟨N, hN⟩ : ∃ N, wk'.length = N := ⟨_, rfl⟩
        rw [hN] at g3 hcap hwl hx0 P
        have PP := Lib.hid P
        have HN := Lib.hid hN
        have hcap1 := hcap.1
        have hwrN : IntKind.i64.wrap (N : Int) = (N : Int) := Go.IntWalk.i64_in _ (by omega)
        have hsB : (N : Int) ≤ (capb : Int) := by omega
        have hsD : ¬ capb = 0 := by omega
        have hixb : ∀ W, (Instr.indexAt 51 (.slice (some ⟨kb, 0, none⟩) (N + 1) capb) (.int .i64 (N : Int))).run Try.prog W = .ok (.pointer (some ⟨kb, N, none⟩)) W := fun W => by
          have := ck_index kb (N + 1) capb W (N : Int) (by omega) (by omega)
          simpa using this
        clear hcs hl hw P hE hm hmb hne hs hN
        go_upto_region 6 with fail
        have k3 : ∀ W, Ext wr W → W.cell? ⟨g, 3, none⟩ = some (.slice (some ⟨kb, 0, none⟩) (N + 1) capb) := fun _ h => h.kept g3.1
        have kx : ∀ W, Ext wr W → W.cell? ⟨kb, N, none⟩ = some (.int .i64 (k : Int)) := fun _ h => h.kept hx0
        refine region_calm 13 (by kernel_rfl) (by kernel_rfl) ?_
        simp only [List.take_succ_cons, List.take_zero, List.drop_succ_cons, List.drop_zero]
        repeat (first | (refine calm_fresh ?_ ?_ (fun wc hE => ?_) ?_; (decide); rfl; (focus (go_simp; done)); go_simp) | (refine calm_value ?_ ?_ ?_; (decide); (first | rfl | (focus (go_simp; done))); apply Exists.intro; refine ⟨fun wc hE => ?_, ?_⟩; (go_simp; exact rfl); go_simp) | (refine calm_call ?_ ?_ ?_; (decide); (first | rfl | (focus (go_simp; done))); apply Exists.intro; refine ⟨fun wc hE => ?_, ?_⟩; (go_simp; (first | fail)); go_simp) | (refine calm_skip ?_ ?_ ?_; (decide); (focus (go_simp; done)); go_simp))
        refine calm_nil ?_
        intro w5 hx
        clear k3 kx hx0 g2
        have g3 := kept2 hx g3
        have PP := Lib.hid (PP.out.ext hx)
        have XE := Lib.hid (XE.out.trans hx)
        have hgl2 := PP.out.box.lt
        clear hx hixb
        go_upto_region 7 with fail
        have k3 : ∀ W, Ext w5 W → W.cell? ⟨g, 3, none⟩ = some (.slice (some ⟨kb, 0, none⟩) (N + 1) capb) := fun _ h => h.kept g3.1
        refine region_float [14] 0 (by kernel_rfl) (by kernel_rfl) ?_
        repeat (first | (refine cw_heavy ?_ ?_; (decide)) | (refine cw_value ?_ ?_ ?_; (decide); (first | rfl | (focus (go_simp; done))); apply Exists.intro; refine ⟨fun wc hE => ?_, ?_⟩; (go_simp; exact rfl); go_simp) | (refine cw_skip ?_ ?_ ?_; (decide); (focus (go_simp; done)); go_simp))
        refine cw_nil ?_
        intro w6 hx
        clear k3
        have g3 := kept2 hx g3
        have PP := PP.out.ext hx
        have XE := XE.out.trans hx
        have hgl2 := PP.box.lt
        refine wpF_hard (heavies_cons rfl heavies_nil) ?_
        obtain ⟨w7, hw7, hP7⟩ : ∃ w7, w6.setCell ⟨g, 3, none⟩ (.slice (some ⟨kb, 0, none⟩) N capb) = w7 ∧ CSt w7 w1.heap.size g ks (.slice oa p.regs.length capa) (.slice oc p.code.length capc) (.slice (some ⟨kb, 0, none⟩) N capb) p T wk' ∧ Ext w1 w7 :=
          ⟨_, rfl, PP.pop HN.out, XE.setCell (p := ⟨g, 3, none⟩) PP.hg _⟩
        have P7 := Lib.hid hP7.1
        have X7 := Lib.hid hP7.2
        clear hx XE PP hP7
        go_upto_region 8 with fail
        try rw [hw7]
        clear g3 hgl2 hw7
        obtain ⟨-, -, g2, -⟩ := P7.out.cells
        have hgl2 := P7.out.box.lt
        obtain ⟨kk, q0, hkk, bS⟩ := (P7.out.row_at hk).2 s Hs.out
        have hq0 := block_lt q0.1
        have hkl := bS.lt
        have hso := P7.out.tok.ok k s Hs.out
        have hst : ∀ W, (Instr.indexAt 73 (.slice (some ⟨ks, 0, none⟩) p.code.length p.code.length) (.int .i64 (k : Int))).run Try.prog W = .ok (.pointer (some ⟨ks, k, none⟩)) W := fun W => by
          have := index_sts W ks p.code.length p.code.length (k : Int) (by omega) (by omega)
          simpa using this
        have hl8 := hso.len
        have Hso := Lib.hid hso
        clear hso
        go_wp2_with (first | ((with_reducible refine load_all bS ?_ Try.underlying80 ?_ ?_ ?_); rfl; rfl; (rw [stV_size hl8]; exact infoState')) | fail)
        have C := one_c p k s Hso.out Hr.out Hcl.out hk (Hins.out _ (getD_mem hk)) (by rw [HN.out]; omega) w7 (HP.out.ext (X.out.trans X7.out)) P7.out
        (with_reducible refine C.mono ?_)
        clear C
        rintro e w8 ⟨rfl, vK', P8, B8⟩
        have HR := work_round HW.out Hs.out
        have Hnew : Rnd p w1 g ks (.slice oa p.regs.length capa) (.slice oc p.code.length capc) w8 (meas (leadAll p (leadsK p k s (insAt p k)) (T, wk')).1 (leadAll p (leadsK p k s (insAt p k)) (T, wk')).2) :=
          ⟨_, _, vK', rfl, by have := Hm.out; have := Hmb.out; have := HR.2; omega, HR.1, P8, Below.trans X7.out B8⟩
        have Hnew := Lib.hid Hnew
        have Hless : Hid (mu w8 < mu wr) := Lib.hid (by
          have h1 := (Hmu.out _ _ Hnew.out).2
          have h2 := HR.2
          have h3 := Hm.out
          omega)
        clear HR P8 B8 bS g2 q0
        go_wp2
        go_roundw
        case rel => exact ⟨_, Hnew.out⟩
        case measure => exact Hless.out
      · have hwk : wk = [] := by
          cases wk with
          | nil => rfl
          | cons a b => simp at hne
        subst hwk
        have HL := Lib.hid (work_least hw)
        obtain ⟨ok, okc, rfl⟩ := own_slice P.wk
        have hl0 : (([] : List Int).length : Nat) = 0 := rfl
        rw [hl0] at g3
        clear hw P hE hm hmb hne HW Hm Hmb Hmu hl0
        rename World => wA
        go_wp2_with fail
        go_loopw [70] (fun i wr => ∃ j : Nat, j ≤ p.code.length ∧ i = .int .i64 j ∧ Ext wA wr ∧ faultFrom p T (p.code.length - j) j = faultOf p T) (fun i _ => p.code.length - (intOf i).toNat)
        case atStart => exact ⟨0, by omega, rfl, Ext.refl _, rfl⟩
        case round =>
          obtain ⟨j, hj, rfl, hE2, hF⟩ := hrel
          have P := PP.out.ext hE2
          have X2 := Lib.hid hE2
          have HF := Lib.hid hF
          clear g2 g3 hgl2
          obtain ⟨-, -, g2, -⟩ := P.cells
          have hgl2 := P.box.lt
          clear hE2 hF
          by_cases hlt : j < p.code.length
          · have hst : ∀ W, (Instr.indexAt 73 (.slice (some ⟨ks, 0, none⟩) p.code.length p.code.length) (.int .i64 (j : Int))).run Try.prog W = .ok (.pointer (some ⟨ks, j, none⟩)) W := fun W => by
              have := index_sts W ks p.code.length p.code.length (j : Int) (by omega) (by omega)
              simpa using this
            have hnj : p.code.length - j = (p.code.length - (j + 1)) + 1 := by omega
            cases ht : tg T j with
            | none =>
              obtain ⟨q0, -⟩ := (P.row_at hlt).1 ht
              have Hn := Lib.hid (show faultFrom p T (p.code.length - (j + 1)) (j + 1) = faultOf p T by rw [← HF.out, hnj, faultFrom_nil ht])
              clear P ht hnj
              go_wp2
              go_roundw
              case rel => exact ⟨j + 1, by omega, by go_num, X2.out, Hn.out⟩
              case measure => first | (simp [intOf]; done) | (simp [intOf]; omega)
            | some s =>
              obtain ⟨kk, q0, hkk, bS⟩ := (P.row_at hlt).2 s ht
              have hq0 := block_lt q0.1
              have hkl := bS.lt
              have hso := P.tok.ok j s ht
              have hl8 := hso.len
              have Hso := Lib.hid hso
              have hpn := ptr_nil kk
              have BS := Lib.hid bS
              have Hf := Lib.hid (faultFrom_some (p := p) (n := p.code.length - (j + 1)) ht)
              have HF2 : Hid (faultFrom p T (p.code.length - (j + 1) + 1) j = faultOf p T) := Lib.hid (by rw [← hnj]; exact HF.out)
              clear hso hnj ht
              go_wp2_with (first | ((with_reducible refine load_all bS ?_ Try.underlying80 ?_ ?_ ?_); rfl; rfl; (rw [stV_size hl8]; exact infoState')) | fail)
              have C := bound_c p j s Hso.out Hr.out Hcl.out hlt (Hins.out _ (getD_mem hlt)) wr (HP.out.ext (X.out.trans (XE.out.trans X2.out))) P
              (with_reducible refine C.mono ?_)
              clear C
              rintro e w5 ⟨rfl, hx⟩
              have P := P.ext hx
              have X2 := Lib.hid (X2.out.trans hx)
              have bS := BS.out.ext hx
              have BS := Lib.hid bS
              have q0 := kept2 hx q0
              have hkl := bS.lt
              have hq0 := block_lt q0.1
              clear hx
              cases hb : boundK p j s (insAt p j)
              · have HE := Lib.hid (show ((4 : Int), j) = faultOf p T by rw [← HF2.out, Hf.out, hb]; rfl)
                have bF := BF.out.ext (XE.out.trans X2.out)
                have f0 : w5.cell? ⟨gb + 1, 0, none⟩ = some (.int .i64 0) ∧ w5.frozen? ⟨gb + 1, 0, none⟩ = false := ⟨by rw [bF.cell]; rfl, bF.frozen _⟩
                have f1 : w5.cell? ⟨gb + 1, 1, none⟩ = some (.int .i64 0) ∧ w5.frozen? ⟨gb + 1, 1, none⟩ = false := ⟨by rw [bF.cell]; rfl, bF.frozen _⟩
                have hgl3 := bF.lt
                clear bF
                clear bS q0 P hb
                go_wp2
                exact bodyPost_ret (results_blk (flt_put (BF.out.ext (XE.out.trans X2.out))) rfl _ rfl Try.underlying28 rfl infoFault) rfl ⟨(4, j), rfl, flt_ext (X.out.trans (XE.out.trans X2.out)) (by have := Hgb.out; omega), fun _ => ⟨T, HL.out, HE.out⟩, fun h => (by rw [Hmay.out] at h; cases h)⟩
              · have Hb := Lib.hid hb
                clear hb
                go_wp2_with (first | ((with_reducible refine load_all bS ?_ Try.underlying80 ?_ ?_ ?_); rfl; rfl; (rw [stV_size hl8]; exact infoState')) | fail)
                have C := quiet_c p j s Hso.out Hr.out Hcl.out hlt (Hins.out _ (getD_mem hlt)) w5 (HP.out.ext (X.out.trans (XE.out.trans X2.out))) P
                (with_reducible refine C.mono ?_)
                clear C
                rintro e w6 ⟨rfl, hx⟩
                have X2 := Lib.hid (X2.out.trans hx)
                clear hx P bS q0
                cases hq : quietK p s (insAt p j)
                · have HE := Lib.hid (show ((5 : Int), j) = faultOf p T by rw [← HF2.out, Hf.out, Hb.out, hq]; rfl)
                  have bF := BF.out.ext (XE.out.trans X2.out)
                  have f0 : w6.cell? ⟨gb + 1, 0, none⟩ = some (.int .i64 0) ∧ w6.frozen? ⟨gb + 1, 0, none⟩ = false := ⟨by rw [bF.cell]; rfl, bF.frozen _⟩
                  have f1 : w6.cell? ⟨gb + 1, 1, none⟩ = some (.int .i64 0) ∧ w6.frozen? ⟨gb + 1, 1, none⟩ = false := ⟨by rw [bF.cell]; rfl, bF.frozen _⟩
                  have hgl3 := bF.lt
                  clear bF
                  clear hq
                  go_wp2
                  exact bodyPost_ret (results_blk (flt_put (BF.out.ext (XE.out.trans X2.out))) rfl _ rfl Try.underlying28 rfl infoFault) rfl ⟨(5, j), rfl, flt_ext (X.out.trans (XE.out.trans X2.out)) (by have := Hgb.out; omega), fun _ => ⟨T, HL.out, HE.out⟩, fun h => (by rw [Hmay.out] at h; cases h)⟩
                · have Hn := Lib.hid (show faultFrom p T (p.code.length - (j + 1)) (j + 1) = faultOf p T by rw [← HF2.out, Hf.out, Hb.out, hq]; rfl)
                  clear hq
                  go_wp2
                  go_roundw
                  case rel => exact ⟨j + 1, by omega, by go_num, X2.out, Hn.out⟩
                  case measure => first | (simp [intOf]; done) | (simp [intOf]; omega)
          · have hje : j = p.code.length := by omega
            subst hje
            have hlt2 : decide ((p.code.length : Int) < (p.code.length : Int)) = false := by simp
            have HE := Lib.hid (show ((0 : Int), 0) = faultOf p T by rw [← HF.out, Nat.sub_self]; rfl)
            have bF := BF.out.ext (XE.out.trans X2.out)
            have f0 : wr.cell? ⟨gb + 1, 0, none⟩ = some (.int .i64 0) ∧ wr.frozen? ⟨gb + 1, 0, none⟩ = false := ⟨by rw [bF.cell]; rfl, bF.frozen _⟩
            have f1 : wr.cell? ⟨gb + 1, 1, none⟩ = some (.int .i64 0) ∧ wr.frozen? ⟨gb + 1, 1, none⟩ = false := ⟨by rw [bF.cell]; rfl, bF.frozen _⟩
            have hgl3 := bF.lt
            clear bF
            clear P
            go_wp2
            exact bodyPost_ret (results_blk (flt_put (BF.out.ext (XE.out.trans X2.out))) rfl _ rfl Try.underlying28 rfl infoFault) rfl ⟨(0, 0), rfl, flt_ext (X.out.trans (XE.out.trans X2.out)) (by have := Hgb.out; omega), fun _ => ⟨T, HL.out, HE.out⟩, fun h => (by rw [Hmay.out] at h; cases h)⟩
end Go.Proofs.Yteiknefajlocoaa
