/- Laid together from: CkW, Ref6e. -/
import Derived.Test.YteiknefajlocoaaCheckTellsB22
import Derived.Test.YteiknefajlocoaaCheckTellsB4
import Derived.Test.YteiknefajlocoaaCheckTellsB23

/- The checker's work list, plainly: what is known at every round, what grows less, and that the table is the least at its end. -/
namespace Go.Proofs.Yteiknefajlocoaa
open Go
set_option linter.unusedVariables false
set_option linter.unusedSimpArgs false

/-- what is known at a round: but for the instructions D, whatever is not in the work has been led on from -/
structure Work (p : LProg) (T : Tab) (wk : List Int) (D : Nat → Prop) : Prop where
  tok : Tok p T
  under : Under p T
  first : ∃ s, tg T 0 = some s ∧ Sle kstart s
  elems : ∀ x ∈ wk, ∃ k : Nat, x = (k : Int) ∧ k < p.code.length ∧ ∃ s, tg T k = some s
  done : ∀ k s, tg T k = some s → ¬ D k → (k : Int) ∉ wk → ∀ x ∈ leadsK p k s (insAt p k), Led p T x
structure Onward (p : LProg) (T : Tab) (wk : List Int) (T' : Tab) (wk' : List Int) : Prop where
  up : Tle T T'
  less : meas T' wk' ≤ meas T wk
  kept : ∀ j s, tg T j = some s → tg T' j = some s ∨ (j : Int) ∈ wk'
  sub : ∀ x ∈ wk, x ∈ wk'
theorem Onward.refl (p : LProg) (T : Tab) (wk : List Int) : Onward p T wk T wk := ⟨Tle.refl T, Nat.le_refl _, fun _ _ h => .inl h, fun _ h => h⟩
theorem Onward.trans {p : LProg} {T U V : Tab} {a b c : List Int} (h : Onward p T a U b) (k : Onward p U b V c) : Onward p T a V c :=
  ⟨h.up.trans k.up, Nat.le_trans k.less h.less, fun j s hj => by
    rcases h.kept j s hj with h1 | h1
    · exact k.kept j s h1
    · exact .inr (k.sub _ h1), fun x hx => k.sub x (h.sub x hx)⟩
/-- what is known rises with the table -/
theorem Work.rise {p : LProg} {T T' : Tab} {wk wk' : List Int} {D : Nat → Prop} (h : Work p T wk D) (hT : Tok p T') (hU : Under p T') (ho : Onward p T wk T' wk') (hb : ∀ j s, tg T' j = some s → tg T j = some s ∨ (j : Int) ∈ wk')
    (he : ∀ x ∈ wk', x ∈ wk ∨ ∃ k : Nat, x = (k : Int) ∧ k < p.code.length ∧ ∃ s, tg T' k = some s) : Work p T' wk' D := by
  refine ⟨hT, hU, ?_, fun x hx => ?_, fun k s hk hd hn x hx => ?_⟩
  · obtain ⟨s, h1, h2⟩ := h.first
    obtain ⟨t, h3, h4⟩ := ho.up 0 s h1
    exact ⟨t, h3, h2.trans h4⟩
  · rcases he x hx with h1 | h1
    · obtain ⟨k, e, h2, s, h3⟩ := h.elems x h1
      obtain ⟨t, h4, -⟩ := ho.up k s h3
      exact ⟨k, e, h2, t, h4⟩
    · exact h1
  · rcases hb k s hk with h1 | h1
    · exact (h.done k s h1 hd (fun h2 => hn (ho.sub _ h2)) x hx).mono ho.up
    · exact absurd h1 hn
/-- one lead -/
theorem lead_on {p : LProg} {T : Tab} {wk : List Int} {D : Nat → Prop} (h : Work p T wk D) {x : Nat × KSt} (hs : Sok x.2) (hU : x.1 < p.code.length → Under p (joinT T x)) :
    Work p (leadT p T x.1 x.2) (leadW p T wk x.1 x.2) D ∧ Onward p T wk (leadT p T x.1 x.2) (leadW p T wk x.1 x.2) ∧ Led p (leadT p T x.1 x.2) x := by
  unfold leadT leadW
  by_cases hn : p.code.length ≤ x.1
  · rw [if_pos hn, if_pos hn]
    exact ⟨h, Onward.refl _ _ _, fun hx => by omega⟩
  · rw [if_neg hn, if_neg hn]
    have hx : x.1 < p.code.length := by omega
    have hxT : x.1 < T.length := by rw [h.tok.len]; exact hx
    have hT := joinT_tok h.tok hs hx
    have hup := joinT_above h.tok hs hx
    have hled := joinT_led h.tok hs (x := x)
    have hget := fun j => joinT_get (T := T) (x := x) j hxT
    have hU := hU hx
    cases ht : tg T x.1 with
    | none =>
      simp only
      have hj : joinT T x = T.set x.1 (some x.2) := by unfold joinT; rw [ht]
      have hp := phi_set T x.1 (some x.2) hxT
      rw [ht] at hp
      have hm : meas (joinT T x) (wk ++ [(x.1 : Int)]) ≤ meas T wk := by
        rw [hj]
        unfold meas
        simp only [ph] at hp
        simp only [List.length_append, List.length_cons, List.length_nil]
        omega
      have ho : Onward p T wk (joinT T x) (wk ++ [(x.1 : Int)]) := ⟨hup, hm, fun j s hjs => by
        rw [hget j]
        by_cases e : j = x.1
        · subst e; right; simp
        · rw [if_neg e]; exact .inl hjs, fun y hy => by simp [hy]⟩
      refine ⟨h.rise hT hU ho (fun j s hjs => ?_) (fun y hy => ?_), ho, hled⟩
      · rw [hget j] at hjs
        by_cases e : j = x.1
        · subst e; right; simp
        · rw [if_neg e] at hjs; exact .inl hjs
      · simp only [List.mem_append, List.mem_cons, List.not_mem_nil, or_false] at hy
        rcases hy with hy | rfl
        · exact .inl hy
        · exact .inr ⟨x.1, rfl, hx, by rw [hget, if_pos rfl]; exact ⟨_, rfl⟩⟩
    | some t =>
      simp only
      have hj : joinT T x = T.set x.1 (some (sjoin x.2 t)) := by unfold joinT; rw [ht]
      have hto := h.tok.ok _ _ ht
      by_cases e : sjoin x.2 t = t
      · rw [if_pos e]
        have hjj : joinT T x = T := by rw [hj, e]; exact tg_same ht hxT
        rw [hjj] at hled ⊢
        exact ⟨h, Onward.refl _ _ _, hled⟩
      · rw [if_neg e]
        have hp := phi_set T x.1 (some (sjoin x.2 t)) hxT
        rw [ht] at hp
        have hjo := sjoin_ok x.2 t
        have hr := rank_mono t (sjoin x.2 t) (by rw [hto.len, hjo.len]) hto.ok hjo.ok (sjoin_le2 hto)
        have hlt : rank t < rank (sjoin x.2 t) := by
          rcases Nat.lt_or_ge (rank t) (rank (sjoin x.2 t)) with h1 | h1
          · exact h1
          · exact absurd (hr.2 (by omega)).symm e
        have hbd := rank_144 hjo
        have hm : meas (joinT T x) (wk ++ [(x.1 : Int)]) ≤ meas T wk := by
          rw [hj]
          unfold meas
          simp only [ph] at hp
          simp only [List.length_append, List.length_cons, List.length_nil]
          omega
        have ho : Onward p T wk (joinT T x) (wk ++ [(x.1 : Int)]) := ⟨hup, hm, fun j s hjs => by
          rw [hget j]
          by_cases e : j = x.1
          · subst e; right; simp
          · rw [if_neg e]; exact .inl hjs, fun y hy => by simp [hy]⟩
        refine ⟨h.rise hT hU ho (fun j s hjs => ?_) (fun y hy => ?_), ho, hled⟩
        · rw [hget j] at hjs
          by_cases e : j = x.1
          · subst e; right; simp
          · rw [if_neg e] at hjs; exact .inl hjs
        · simp only [List.mem_append, List.mem_cons, List.not_mem_nil, or_false] at hy
          rcases hy with hy | rfl
          · exact .inl hy
          · exact .inr ⟨x.1, rfl, hx, by rw [hget, if_pos rfl]; exact ⟨_, rfl⟩⟩
/-- all leads of an instruction -/
theorem leads_on {p : LProg} {at_ : Nat} {s : KSt} {D : Nat → Prop} (hs : Sok s) : ∀ (l : List (Nat × KSt)) (T : Tab) (wk : List Int), Work p T wk D → (∃ s', tg T at_ = some s' ∧ Sle s s') → (∀ x ∈ l, x ∈ leadsK p at_ s (insAt p at_)) →
    Work p (leadAll p l (T, wk)).1 (leadAll p l (T, wk)).2 D ∧ Onward p T wk (leadAll p l (T, wk)).1 (leadAll p l (T, wk)).2 ∧ ∀ x ∈ l, Led p (leadAll p l (T, wk)).1 x
  | [], T, wk, h, _, _ => ⟨h, Onward.refl _ _ _, fun x hx => by simp at hx⟩
  | x :: l, T, wk, h, hk, hl => by
    have hx := hl x (by simp)
    have hxs := leadsK_ok p at_ hs _ x hx
    obtain ⟨h1, h2, h3⟩ := lead_on h hxs (fun hn => joinT_under h.tok h.under hk hs hx hn)
    obtain ⟨s', e1, e2⟩ := hk
    obtain ⟨t, e3, e4⟩ := h2.up at_ s' e1
    obtain ⟨i1, i2, i3⟩ := leads_on hs l _ _ h1 ⟨t, e3, e2.trans e4⟩ (fun y hy => hl y (by simp [hy]))
    refine ⟨i1, h2.trans i2, fun y hy => ?_⟩
    simp only [List.mem_cons] at hy
    rcases hy with rfl | hy
    · exact h3.mono i2.up
    · exact i3 y hy
/-- a round -/
theorem work_round {p : LProg} {T : Tab} {wk : List Int} {at_ : Nat} {s : KSt} (h : Work p T (wk ++ [(at_ : Int)]) (fun _ => False)) (hs : tg T at_ = some s) :
    Work p (leadAll p (leadsK p at_ s (insAt p at_)) (T, wk)).1 (leadAll p (leadsK p at_ s (insAt p at_)) (T, wk)).2 (fun _ => False) ∧
    meas (leadAll p (leadsK p at_ s (insAt p at_)) (T, wk)).1 (leadAll p (leadsK p at_ s (insAt p at_)) (T, wk)).2 < meas T (wk ++ [(at_ : Int)]) := by
  have h0 : Work p T wk (fun k => k = at_) := ⟨h.tok, h.under, h.first, fun x hx => h.elems x (by simp [hx]), fun k s hk hd hn x hx => h.done k s hk id (by
    simp only [List.mem_append, List.mem_cons, List.not_mem_nil, or_false, not_or]
    exact ⟨hn, fun e => hd (by omega)⟩) x hx⟩
  obtain ⟨h1, h2, h3⟩ := leads_on (h.tok.ok _ _ hs) _ T wk h0 ⟨s, hs, Sle.refl s⟩ (fun x hx => hx)
  generalize leadAll p (leadsK p at_ s (insAt p at_)) (T, wk) = R at *
  refine ⟨⟨h1.tok, h1.under, h1.first, h1.elems, fun k u hk _ hn x hx => ?_⟩, ?_⟩
  · by_cases e : k = at_
    · subst e
      rcases h2.kept k s hs with h4 | h4
      · rw [hk] at h4
        obtain rfl := Option.some.inj h4
        exact h3 x hx
      · exact absurd h4 hn
    · exact h1.done k u hk e hn x hx
  · have := h2.less
    unfold meas at *
    simp only [List.length_append, List.length_cons, List.length_nil]
    omega
theorem work_least {p : LProg} {T : Tab} (h : Work p T [] (fun _ => False)) : Least p T := ⟨⟨h.tok, h.first, fun k s hk x hx => h.done k s hk id (by simp) x hx⟩, h.under⟩
theorem work_first (p : LProg) (hp : 0 < p.code.length) : Work p (firstT p) [((0 : Nat) : Int)] (fun _ => False) := by
  refine ⟨firstT_tok p hp, firstT_under p hp, ⟨kstart, by rw [firstT_get p hp, if_pos rfl], Sle.refl _⟩, fun x hx => ?_, fun k s hk _ hn x hx => ?_⟩
  · simp only [List.mem_cons, List.not_mem_nil, or_false] at hx
    exact ⟨0, hx, hp, kstart, by rw [firstT_get p hp, if_pos rfl]⟩
  · rw [firstT_get p hp] at hk
    split at hk
    · rename_i e; subst e; simp at hn
    · cases hk
theorem lead_first (p : LProg) (hp : 0 < p.code.length) : leadT p (List.replicate p.code.length none) 0 kstart = firstT p ∧ leadW p (List.replicate p.code.length none) [] 0 kstart = [((0 : Nat) : Int)] := by
  have h0 : tg (List.replicate p.code.length (none : Option KSt)) 0 = none := by
    unfold tg
    rw [List.getD_eq_getElem?_getD, List.getElem?_replicate, if_pos hp]
    rfl
  unfold leadT leadW
  rw [if_neg (by omega), if_neg (by omega), h0]
  refine ⟨?_, rfl⟩
  unfold joinT
  rw [h0]
  rfl
theorem meas_first (p : LProg) (hcl : p.code.length ≤ 200) : meas (firstT p) [((0 : Nat) : Int)] ≤ 87001 := by
  have := phi_le (firstT p)
  have hl : (firstT p).length = p.code.length := by simp [firstT]
  unfold meas
  simp only [List.length_cons, List.length_nil]
  omega
theorem work_last {wk : List Int} (h : 0 < wk.length) : ∃ wk' x, wk = wk' ++ [x] := by
  refine ⟨wk.dropLast, wk.getLast (by intro e; rw [e] at h; simp at h), ?_⟩
  exact (List.dropLast_concat_getLast _).symm
end Go.Proofs.Yteiknefajlocoaa
/- Walk of the reference's secret (chapter 6). -/
namespace Go.Proofs.Yteiknefajlocoaa
open Go.ChangeShapes Go.WideShapes Go.ChangeAt Go.RowKit
set_option linter.unusedVariables false
set_option linter.unusedSimpArgs false

set_option maxRecDepth 100000 in
set_option maxHeartbeats 4000000 in
theorem secret_load (p : LProg) {oa : Option Addr} {capa : Nat} {oc : Option Addr} {capc : Nat} (s : KSt) (op a b c n : Int) (hop : op = 3) (hr : regsOk p.regs = true) (hok : insOk p 8 ⟨op, a, b, c, n⟩ = true) (w : World) (hp : ProgAt w (.agg #[.slice oa p.regs.length capa, .slice oc p.code.length capc]) p) {B ba cap : Nat} (hk : KnAt w B (.slice (some ⟨ba, 0, none⟩) 8 cap) s) :
    Calls Try.prog 58 #[.agg #[.slice oa p.regs.length capa, .slice oc p.code.length capc], .agg #[.int .i64 op, .int .i64 a, .int .i64 b, .int .i64 c, .int .i64 n], .slice (some ⟨ba, 0, none⟩) 8 cap] w fun e w' => e = .returned (.bool (!quietK p s ⟨op, a, b, c, n⟩)) ∧ Ext w w' := by
  subst hop
  have hb : okIn 8 b = true := by unfold insOk at hok; simp [okIn] at hok ⊢; omega
  obtain ⟨bz0, bz1⟩ := okIn_iff.1 hb
  obtain ⟨v1, v2, hv, hR, -⟩ := hp
  simp only [Value.agg.injEq, Array.mk.injEq, List.cons.injEq, and_true] at hv
  obtain ⟨rfl, rfl⟩ := hv
  obtain ⟨-, ⟨kb, -⟩⟩ := hk.cell hb
  have hixs := index_kn ba cap
  have Hq : Hid ((!quietK p s ⟨3, a, b, c, n⟩) = (kg s b).sec) := Lib.hid (by simp [quietK])
  generalize (kg s b).sec = sb at *
  clear hk hR hr hok
  go_enter Try.func58, Try.ntmps58
  go_upto_region 1 with fail
  obtain ⟨W, g, hg, hW, hx, bP, bI⟩ := blocks2 w #[.slice oa p.regs.length capa, .slice oc p.code.length capc] #[.int .i64 3, .int .i64 a, .int .i64 b, .int .i64 c, .int .i64 n] 25 70
  rw [hW, hg]
  have X := Lib.hid hx
  have p0 : W.cell? ⟨g, 0, none⟩ = some (.slice oa p.regs.length capa) := by rw [bP.cell]; rfl
  have i0 : W.cell? ⟨g + 1, 0, none⟩ = some (.int .i64 3) := by rw [bI.cell]; rfl
  have i1 : W.cell? ⟨g + 1, 1, none⟩ = some (.int .i64 a) := by rw [bI.cell]; rfl
  have i2 : W.cell? ⟨g + 1, 2, none⟩ = some (.int .i64 b) := by rw [bI.cell]; rfl
  have i3 : W.cell? ⟨g + 1, 3, none⟩ = some (.int .i64 c) := by rw [bI.cell]; rfl
  have kb := hx.kept kb
  clear hW hg hx bP bI
  cases sb
  all_goals go_wp2
  all_goals go_ret
  all_goals rw [Hq.out]
  all_goals exact ⟨rfl, X.out⟩
set_option maxRecDepth 100000 in
set_option maxHeartbeats 4000000 in
theorem secret_put (p : LProg) {oa : Option Addr} {capa : Nat} {oc : Option Addr} {capc : Nat} (s : KSt) (op a b c n : Int) (hop : op = 4) (hr : regsOk p.regs = true) (hok : insOk p 8 ⟨op, a, b, c, n⟩ = true) (w : World) (hp : ProgAt w (.agg #[.slice oa p.regs.length capa, .slice oc p.code.length capc]) p) {B ba cap : Nat} (hk : KnAt w B (.slice (some ⟨ba, 0, none⟩) 8 cap) s) :
    Calls Try.prog 58 #[.agg #[.slice oa p.regs.length capa, .slice oc p.code.length capc], .agg #[.int .i64 op, .int .i64 a, .int .i64 b, .int .i64 c, .int .i64 n], .slice (some ⟨ba, 0, none⟩) 8 cap] w fun e w' => e = .returned (.bool (!quietK p s ⟨op, a, b, c, n⟩)) ∧ Ext w w' := by
  subst hop
  have hb : okIn 8 b = true := by unfold insOk at hok; simp [okIn] at hok ⊢; omega
  have ha : okIn 8 a = true := by unfold insOk at hok; simp [okIn] at hok ⊢; omega
  obtain ⟨bz0, bz1⟩ := okIn_iff.1 hb
  obtain ⟨az0, az1⟩ := okIn_iff.1 ha
  obtain ⟨v1, v2, hv, hR, -⟩ := hp
  simp only [Value.agg.injEq, Array.mk.injEq, List.cons.injEq, and_true] at hv
  obtain ⟨rfl, rfl⟩ := hv
  obtain ⟨hc0, hc1'⟩ := region_there hok (by unfold isPut isTake; simp)
  simp only at hc0 hc1'
  obtain ⟨-, oa', capa', br, orr, hv3, hd1, hd2, hrow2⟩ := hR
  simp only [Value.slice.injEq, true_and] at hv3
  obtain ⟨rfl, rfl⟩ := hv3
  obtain ⟨-, rsec⟩ := hrow2.reg c.toNat hc1'
  have hixr := index_regs (cap := capa) hrow2.at_
  have hlen := regsOk_len hr
  have hcl2 : c < (p.regs.length : Int) := by omega
  have hrf : p.regs.getD c.toNat default = regOf p ⟨4, a, b, c, n⟩ := rfl
  rw [hrf] at rsec
  clear hrow2 hd1 hd2 hrf
  obtain ⟨-, ⟨kb, -⟩⟩ := hk.cell hb
  obtain ⟨-, ⟨ka, -⟩⟩ := hk.cell ha
  have hixs := index_kn ba cap
  have Hq : Hid ((!quietK p s ⟨4, a, b, c, n⟩) = ((kg s b).sec || ((kg s a).sec && !(regOf p ⟨4, a, b, c, n⟩).secret))) := Lib.hid (by simp [quietK])
  generalize (kg s b).sec = sb at *
  generalize (kg s a).sec = sa at *
  generalize (regOf p ⟨4, a, b, c, n⟩).secret = sr at *
  clear hk hr hok
  go_enter Try.func58, Try.ntmps58
  go_upto_region 1 with fail
  obtain ⟨W, g, hg, hW, hx, bP, bI⟩ := blocks2 w #[.slice oa p.regs.length capa, .slice oc p.code.length capc] #[.int .i64 4, .int .i64 a, .int .i64 b, .int .i64 c, .int .i64 n] 25 70
  rw [hW, hg]
  have X := Lib.hid hx
  have p0 : W.cell? ⟨g, 0, none⟩ = some (.slice oa p.regs.length capa) := by rw [bP.cell]; rfl
  have i0 : W.cell? ⟨g + 1, 0, none⟩ = some (.int .i64 4) := by rw [bI.cell]; rfl
  have i1 : W.cell? ⟨g + 1, 1, none⟩ = some (.int .i64 a) := by rw [bI.cell]; rfl
  have i2 : W.cell? ⟨g + 1, 2, none⟩ = some (.int .i64 b) := by rw [bI.cell]; rfl
  have i3 : W.cell? ⟨g + 1, 3, none⟩ = some (.int .i64 c) := by rw [bI.cell]; rfl
  have kb := hx.kept kb
  have ka := hx.kept ka
  have rsec := hx.kept rsec
  clear hW hg hx bP bI
  cases sb
  all_goals cases sa
  all_goals cases sr
  all_goals go_wp2
  all_goals go_ret
  all_goals rw [Hq.out]
  all_goals exact ⟨rfl, X.out⟩
set_option maxRecDepth 100000 in
set_option maxHeartbeats 4000000 in
theorem secret_putk (p : LProg) {oa : Option Addr} {capa : Nat} {oc : Option Addr} {capc : Nat} (s : KSt) (op a b c n : Int) (hop : op = 6) (hr : regsOk p.regs = true) (hok : insOk p 8 ⟨op, a, b, c, n⟩ = true) (w : World) (hp : ProgAt w (.agg #[.slice oa p.regs.length capa, .slice oc p.code.length capc]) p) {B ba cap : Nat} (hk : KnAt w B (.slice (some ⟨ba, 0, none⟩) 8 cap) s) :
    Calls Try.prog 58 #[.agg #[.slice oa p.regs.length capa, .slice oc p.code.length capc], .agg #[.int .i64 op, .int .i64 a, .int .i64 b, .int .i64 c, .int .i64 n], .slice (some ⟨ba, 0, none⟩) 8 cap] w fun e w' => e = .returned (.bool (!quietK p s ⟨op, a, b, c, n⟩)) ∧ Ext w w' := by
  subst hop
  have ha : okIn 8 a = true := by unfold insOk at hok; simp [okIn] at hok ⊢; omega
  obtain ⟨az0, az1⟩ := okIn_iff.1 ha
  obtain ⟨v1, v2, hv, hR, -⟩ := hp
  simp only [Value.agg.injEq, Array.mk.injEq, List.cons.injEq, and_true] at hv
  obtain ⟨rfl, rfl⟩ := hv
  obtain ⟨hc0, hc1'⟩ := region_there hok (by unfold isPut isTake; simp)
  simp only at hc0 hc1'
  obtain ⟨-, oa', capa', br, orr, hv3, hd1, hd2, hrow2⟩ := hR
  simp only [Value.slice.injEq, true_and] at hv3
  obtain ⟨rfl, rfl⟩ := hv3
  obtain ⟨-, rsec⟩ := hrow2.reg c.toNat hc1'
  have hixr := index_regs (cap := capa) hrow2.at_
  have hlen := regsOk_len hr
  have hcl2 : c < (p.regs.length : Int) := by omega
  have hrf : p.regs.getD c.toNat default = regOf p ⟨6, a, b, c, n⟩ := rfl
  rw [hrf] at rsec
  clear hrow2 hd1 hd2 hrf
  obtain ⟨-, ⟨ka, -⟩⟩ := hk.cell ha
  have hixs := index_kn ba cap
  have Hq : Hid ((!quietK p s ⟨6, a, b, c, n⟩) = ((kg s a).sec && !(regOf p ⟨6, a, b, c, n⟩).secret)) := Lib.hid (by simp [quietK])
  generalize (kg s a).sec = sa at *
  generalize (regOf p ⟨6, a, b, c, n⟩).secret = sr at *
  clear hk hr hok
  go_enter Try.func58, Try.ntmps58
  go_upto_region 1 with fail
  obtain ⟨W, g, hg, hW, hx, bP, bI⟩ := blocks2 w #[.slice oa p.regs.length capa, .slice oc p.code.length capc] #[.int .i64 6, .int .i64 a, .int .i64 b, .int .i64 c, .int .i64 n] 25 70
  rw [hW, hg]
  have X := Lib.hid hx
  have p0 : W.cell? ⟨g, 0, none⟩ = some (.slice oa p.regs.length capa) := by rw [bP.cell]; rfl
  have i0 : W.cell? ⟨g + 1, 0, none⟩ = some (.int .i64 6) := by rw [bI.cell]; rfl
  have i1 : W.cell? ⟨g + 1, 1, none⟩ = some (.int .i64 a) := by rw [bI.cell]; rfl
  have i2 : W.cell? ⟨g + 1, 2, none⟩ = some (.int .i64 b) := by rw [bI.cell]; rfl
  have i3 : W.cell? ⟨g + 1, 3, none⟩ = some (.int .i64 c) := by rw [bI.cell]; rfl
  have ka := hx.kept ka
  have rsec := hx.kept rsec
  clear hW hg hx bP bI
  cases sa
  all_goals cases sr
  all_goals go_wp2
  all_goals go_ret
  all_goals rw [Hq.out]
  all_goals exact ⟨rfl, X.out⟩
set_option maxRecDepth 100000 in
set_option maxHeartbeats 4000000 in
theorem secret_if (p : LProg) {oa : Option Addr} {capa : Nat} {oc : Option Addr} {capc : Nat} (s : KSt) (op a b c n : Int) (hop : op = 8) (hr : regsOk p.regs = true) (hok : insOk p 8 ⟨op, a, b, c, n⟩ = true) (w : World) (hp : ProgAt w (.agg #[.slice oa p.regs.length capa, .slice oc p.code.length capc]) p) {B ba cap : Nat} (hk : KnAt w B (.slice (some ⟨ba, 0, none⟩) 8 cap) s) :
    Calls Try.prog 58 #[.agg #[.slice oa p.regs.length capa, .slice oc p.code.length capc], .agg #[.int .i64 op, .int .i64 a, .int .i64 b, .int .i64 c, .int .i64 n], .slice (some ⟨ba, 0, none⟩) 8 cap] w fun e w' => e = .returned (.bool (!quietK p s ⟨op, a, b, c, n⟩)) ∧ Ext w w' := by
  subst hop
  have ha : okIn 8 a = true := by unfold insOk at hok; simp [okIn] at hok ⊢; omega
  have hb : okIn 8 b = true := by unfold insOk at hok; simp [okIn] at hok ⊢; omega
  obtain ⟨az0, az1⟩ := okIn_iff.1 ha
  obtain ⟨bz0, bz1⟩ := okIn_iff.1 hb
  obtain ⟨v1, v2, hv, hR, -⟩ := hp
  simp only [Value.agg.injEq, Array.mk.injEq, List.cons.injEq, and_true] at hv
  obtain ⟨rfl, rfl⟩ := hv
  obtain ⟨-, ⟨ka, -⟩⟩ := hk.cell ha
  obtain ⟨-, ⟨kb, -⟩⟩ := hk.cell hb
  have hixs := index_kn ba cap
  have Hq : Hid ((!quietK p s ⟨8, a, b, c, n⟩) = ((kg s a).sec || (kg s b).sec)) := Lib.hid (by simp [quietK])
  generalize (kg s a).sec = sa at *
  generalize (kg s b).sec = sb at *
  clear hk hR hr hok
  go_enter Try.func58, Try.ntmps58
  go_upto_region 1 with fail
  obtain ⟨W, g, hg, hW, hx, bP, bI⟩ := blocks2 w #[.slice oa p.regs.length capa, .slice oc p.code.length capc] #[.int .i64 8, .int .i64 a, .int .i64 b, .int .i64 c, .int .i64 n] 25 70
  rw [hW, hg]
  have X := Lib.hid hx
  have p0 : W.cell? ⟨g, 0, none⟩ = some (.slice oa p.regs.length capa) := by rw [bP.cell]; rfl
  have i0 : W.cell? ⟨g + 1, 0, none⟩ = some (.int .i64 8) := by rw [bI.cell]; rfl
  have i1 : W.cell? ⟨g + 1, 1, none⟩ = some (.int .i64 a) := by rw [bI.cell]; rfl
  have i2 : W.cell? ⟨g + 1, 2, none⟩ = some (.int .i64 b) := by rw [bI.cell]; rfl
  have i3 : W.cell? ⟨g + 1, 3, none⟩ = some (.int .i64 c) := by rw [bI.cell]; rfl
  have ka := hx.kept ka
  have kb := hx.kept kb
  clear hW hg hx bP bI
  cases sa
  all_goals cases sb
  all_goals go_wp2
  all_goals go_ret
  all_goals rw [Hq.out]
  all_goals exact ⟨rfl, X.out⟩
set_option maxRecDepth 100000 in
set_option maxHeartbeats 4000000 in
theorem secret_halt (p : LProg) {oa : Option Addr} {capa : Nat} {oc : Option Addr} {capc : Nat} (s : KSt) (op a b c n : Int) (hop : op = 9) (hr : regsOk p.regs = true) (hok : insOk p 8 ⟨op, a, b, c, n⟩ = true) (w : World) (hp : ProgAt w (.agg #[.slice oa p.regs.length capa, .slice oc p.code.length capc]) p) {B ba cap : Nat} (hk : KnAt w B (.slice (some ⟨ba, 0, none⟩) 8 cap) s) :
    Calls Try.prog 58 #[.agg #[.slice oa p.regs.length capa, .slice oc p.code.length capc], .agg #[.int .i64 op, .int .i64 a, .int .i64 b, .int .i64 c, .int .i64 n], .slice (some ⟨ba, 0, none⟩) 8 cap] w fun e w' => e = .returned (.bool (!quietK p s ⟨op, a, b, c, n⟩)) ∧ Ext w w' := by
  subst hop
  have ha : okIn 8 a = true := by unfold insOk at hok; simp [okIn] at hok ⊢; omega
  obtain ⟨az0, az1⟩ := okIn_iff.1 ha
  obtain ⟨v1, v2, hv, hR, -⟩ := hp
  simp only [Value.agg.injEq, Array.mk.injEq, List.cons.injEq, and_true] at hv
  obtain ⟨rfl, rfl⟩ := hv
  obtain ⟨-, ⟨ka, -⟩⟩ := hk.cell ha
  have hixs := index_kn ba cap
  have Hq : Hid ((!quietK p s ⟨9, a, b, c, n⟩) = (kg s a).sec) := Lib.hid (by simp [quietK])
  generalize (kg s a).sec = sa at *
  clear hk hR hr hok
  go_enter Try.func58, Try.ntmps58
  go_upto_region 1 with fail
  obtain ⟨W, g, hg, hW, hx, bP, bI⟩ := blocks2 w #[.slice oa p.regs.length capa, .slice oc p.code.length capc] #[.int .i64 9, .int .i64 a, .int .i64 b, .int .i64 c, .int .i64 n] 25 70
  rw [hW, hg]
  have X := Lib.hid hx
  have p0 : W.cell? ⟨g, 0, none⟩ = some (.slice oa p.regs.length capa) := by rw [bP.cell]; rfl
  have i0 : W.cell? ⟨g + 1, 0, none⟩ = some (.int .i64 9) := by rw [bI.cell]; rfl
  have i1 : W.cell? ⟨g + 1, 1, none⟩ = some (.int .i64 a) := by rw [bI.cell]; rfl
  have i2 : W.cell? ⟨g + 1, 2, none⟩ = some (.int .i64 b) := by rw [bI.cell]; rfl
  have i3 : W.cell? ⟨g + 1, 3, none⟩ = some (.int .i64 c) := by rw [bI.cell]; rfl
  have ka := hx.kept ka
  clear hW hg hx bP bI
  cases sa
  all_goals go_wp2
  all_goals go_ret
  all_goals rw [Hq.out]
  all_goals exact ⟨rfl, X.out⟩
set_option maxRecDepth 100000 in
set_option maxHeartbeats 4000000 in
theorem secret_div29 (p : LProg) {oa : Option Addr} {capa : Nat} {oc : Option Addr} {capc : Nat} (s : KSt) (op a b c n : Int) (hop : op = 29) (hr : regsOk p.regs = true) (hok : insOk p 8 ⟨op, a, b, c, n⟩ = true) (w : World) (hp : ProgAt w (.agg #[.slice oa p.regs.length capa, .slice oc p.code.length capc]) p) {B ba cap : Nat} (hk : KnAt w B (.slice (some ⟨ba, 0, none⟩) 8 cap) s) :
    Calls Try.prog 58 #[.agg #[.slice oa p.regs.length capa, .slice oc p.code.length capc], .agg #[.int .i64 op, .int .i64 a, .int .i64 b, .int .i64 c, .int .i64 n], .slice (some ⟨ba, 0, none⟩) 8 cap] w fun e w' => e = .returned (.bool (!quietK p s ⟨op, a, b, c, n⟩)) ∧ Ext w w' := by
  subst hop
  have hb : okIn 8 b = true := by unfold insOk at hok; simp [okIn] at hok ⊢; omega
  have hc : okIn 8 c = true := by unfold insOk at hok; simp [okIn] at hok ⊢; omega
  obtain ⟨bz0, bz1⟩ := okIn_iff.1 hb
  obtain ⟨cz0, cz1⟩ := okIn_iff.1 hc
  obtain ⟨v1, v2, hv, hR, -⟩ := hp
  simp only [Value.agg.injEq, Array.mk.injEq, List.cons.injEq, and_true] at hv
  obtain ⟨rfl, rfl⟩ := hv
  obtain ⟨-, ⟨kb, -⟩⟩ := hk.cell hb
  obtain ⟨-, ⟨kc, -⟩⟩ := hk.cell hc
  have hixs := index_kn ba cap
  have Hq : Hid ((!quietK p s ⟨29, a, b, c, n⟩) = ((kg s b).sec || (kg s c).sec)) := Lib.hid (by simp [quietK])
  generalize (kg s b).sec = sb at *
  generalize (kg s c).sec = sc at *
  clear hk hR hr hok
  go_enter Try.func58, Try.ntmps58
  go_upto_region 1 with fail
  obtain ⟨W, g, hg, hW, hx, bP, bI⟩ := blocks2 w #[.slice oa p.regs.length capa, .slice oc p.code.length capc] #[.int .i64 29, .int .i64 a, .int .i64 b, .int .i64 c, .int .i64 n] 25 70
  rw [hW, hg]
  have X := Lib.hid hx
  have p0 : W.cell? ⟨g, 0, none⟩ = some (.slice oa p.regs.length capa) := by rw [bP.cell]; rfl
  have i0 : W.cell? ⟨g + 1, 0, none⟩ = some (.int .i64 29) := by rw [bI.cell]; rfl
  have i1 : W.cell? ⟨g + 1, 1, none⟩ = some (.int .i64 a) := by rw [bI.cell]; rfl
  have i2 : W.cell? ⟨g + 1, 2, none⟩ = some (.int .i64 b) := by rw [bI.cell]; rfl
  have i3 : W.cell? ⟨g + 1, 3, none⟩ = some (.int .i64 c) := by rw [bI.cell]; rfl
  have kb := hx.kept kb
  have kc := hx.kept kc
  clear hW hg hx bP bI
  cases sb
  all_goals cases sc
  all_goals go_wp2
  all_goals go_ret
  all_goals rw [Hq.out]
  all_goals exact ⟨rfl, X.out⟩
set_option maxRecDepth 100000 in
set_option maxHeartbeats 4000000 in
theorem secret_div30 (p : LProg) {oa : Option Addr} {capa : Nat} {oc : Option Addr} {capc : Nat} (s : KSt) (op a b c n : Int) (hop : op = 30) (hr : regsOk p.regs = true) (hok : insOk p 8 ⟨op, a, b, c, n⟩ = true) (w : World) (hp : ProgAt w (.agg #[.slice oa p.regs.length capa, .slice oc p.code.length capc]) p) {B ba cap : Nat} (hk : KnAt w B (.slice (some ⟨ba, 0, none⟩) 8 cap) s) :
    Calls Try.prog 58 #[.agg #[.slice oa p.regs.length capa, .slice oc p.code.length capc], .agg #[.int .i64 op, .int .i64 a, .int .i64 b, .int .i64 c, .int .i64 n], .slice (some ⟨ba, 0, none⟩) 8 cap] w fun e w' => e = .returned (.bool (!quietK p s ⟨op, a, b, c, n⟩)) ∧ Ext w w' := by
  subst hop
  have hb : okIn 8 b = true := by unfold insOk at hok; simp [okIn] at hok ⊢; omega
  have hc : okIn 8 c = true := by unfold insOk at hok; simp [okIn] at hok ⊢; omega
  obtain ⟨bz0, bz1⟩ := okIn_iff.1 hb
  obtain ⟨cz0, cz1⟩ := okIn_iff.1 hc
  obtain ⟨v1, v2, hv, hR, -⟩ := hp
  simp only [Value.agg.injEq, Array.mk.injEq, List.cons.injEq, and_true] at hv
  obtain ⟨rfl, rfl⟩ := hv
  obtain ⟨-, ⟨kb, -⟩⟩ := hk.cell hb
  obtain ⟨-, ⟨kc, -⟩⟩ := hk.cell hc
  have hixs := index_kn ba cap
  have Hq : Hid ((!quietK p s ⟨30, a, b, c, n⟩) = ((kg s b).sec || (kg s c).sec)) := Lib.hid (by simp [quietK])
  generalize (kg s b).sec = sb at *
  generalize (kg s c).sec = sc at *
  clear hk hR hr hok
  go_enter Try.func58, Try.ntmps58
  go_upto_region 1 with fail
  obtain ⟨W, g, hg, hW, hx, bP, bI⟩ := blocks2 w #[.slice oa p.regs.length capa, .slice oc p.code.length capc] #[.int .i64 30, .int .i64 a, .int .i64 b, .int .i64 c, .int .i64 n] 25 70
  rw [hW, hg]
  have X := Lib.hid hx
  have p0 : W.cell? ⟨g, 0, none⟩ = some (.slice oa p.regs.length capa) := by rw [bP.cell]; rfl
  have i0 : W.cell? ⟨g + 1, 0, none⟩ = some (.int .i64 30) := by rw [bI.cell]; rfl
  have i1 : W.cell? ⟨g + 1, 1, none⟩ = some (.int .i64 a) := by rw [bI.cell]; rfl
  have i2 : W.cell? ⟨g + 1, 2, none⟩ = some (.int .i64 b) := by rw [bI.cell]; rfl
  have i3 : W.cell? ⟨g + 1, 3, none⟩ = some (.int .i64 c) := by rw [bI.cell]; rfl
  have kb := hx.kept kb
  have kc := hx.kept kc
  clear hW hg hx bP bI
  cases sb
  all_goals cases sc
  all_goals go_wp2
  all_goals go_ret
  all_goals rw [Hq.out]
  all_goals exact ⟨rfl, X.out⟩
set_option maxRecDepth 100000 in
set_option maxHeartbeats 4000000 in
theorem secret_rest (p : LProg) {oa : Option Addr} {capa : Nat} {oc : Option Addr} {capc : Nat} (s : KSt) (op a b c n : Int) (hop : op ≠ 3 ∧ op ≠ 4 ∧ op ≠ 6 ∧ op ≠ 8 ∧ op ≠ 9 ∧ op ≠ 29 ∧ op ≠ 30) (hr : regsOk p.regs = true) (hok : insOk p 8 ⟨op, a, b, c, n⟩ = true) (w : World) (hp : ProgAt w (.agg #[.slice oa p.regs.length capa, .slice oc p.code.length capc]) p) {B ba cap : Nat} (hk : KnAt w B (.slice (some ⟨ba, 0, none⟩) 8 cap) s) :
    Calls Try.prog 58 #[.agg #[.slice oa p.regs.length capa, .slice oc p.code.length capc], .agg #[.int .i64 op, .int .i64 a, .int .i64 b, .int .i64 c, .int .i64 n], .slice (some ⟨ba, 0, none⟩) 8 cap] w fun e w' => e = .returned (.bool (!quietK p s ⟨op, a, b, c, n⟩)) ∧ Ext w w' := by
  obtain ⟨h3, h4, h6, h8, h9, h29, h30⟩ := hop
  have hq3 : (op == (3 : Int)) = false := by simpa using h3
  have hq4 : (op == (4 : Int)) = false := by simpa using h4
  have hq6 : (op == (6 : Int)) = false := by simpa using h6
  have hq8 : (op == (8 : Int)) = false := by simpa using h8
  have hq9 : (op == (9 : Int)) = false := by simpa using h9
  have hq29 : (op == (29 : Int)) = false := by simpa using h29
  have hq30 : (op == (30 : Int)) = false := by simpa using h30
  obtain ⟨v1, v2, hv, hR, -⟩ := hp
  simp only [Value.agg.injEq, Array.mk.injEq, List.cons.injEq, and_true] at hv
  obtain ⟨rfl, rfl⟩ := hv
  have hixs := index_kn ba cap
  have Hq : Hid ((!quietK p s ⟨op, a, b, c, n⟩) = false) := Lib.hid (by unfold quietK; simp only; rw [if_neg (by omega), if_neg (by omega), if_neg (by omega), if_neg (by omega), if_neg (by omega), if_neg (by omega)]; rfl)
  clear hk hR hr hok
  go_enter Try.func58, Try.ntmps58
  go_upto_region 1 with fail
  obtain ⟨W, g, hg, hW, hx, bP, bI⟩ := blocks2 w #[.slice oa p.regs.length capa, .slice oc p.code.length capc] #[.int .i64 op, .int .i64 a, .int .i64 b, .int .i64 c, .int .i64 n] 25 70
  rw [hW, hg]
  have X := Lib.hid hx
  have p0 : W.cell? ⟨g, 0, none⟩ = some (.slice oa p.regs.length capa) := by rw [bP.cell]; rfl
  have i0 : W.cell? ⟨g + 1, 0, none⟩ = some (.int .i64 op) := by rw [bI.cell]; rfl
  have i1 : W.cell? ⟨g + 1, 1, none⟩ = some (.int .i64 a) := by rw [bI.cell]; rfl
  have i2 : W.cell? ⟨g + 1, 2, none⟩ = some (.int .i64 b) := by rw [bI.cell]; rfl
  have i3 : W.cell? ⟨g + 1, 3, none⟩ = some (.int .i64 c) := by rw [bI.cell]; rfl
  clear hW hg hx bP bI
  all_goals go_wp2
  all_goals go_ret
  all_goals rw [Hq.out]
  all_goals exact ⟨rfl, X.out⟩
theorem secret6_c (p : LProg) {oa : Option Addr} {capa : Nat} {oc : Option Addr} {capc : Nat} (s : KSt) (op a b c n : Int) (hr : regsOk p.regs = true) (hok : insOk p 8 ⟨op, a, b, c, n⟩ = true) (w : World) (hp : ProgAt w (.agg #[.slice oa p.regs.length capa, .slice oc p.code.length capc]) p) {B ba cap : Nat} (hk : KnAt w B (.slice (some ⟨ba, 0, none⟩) 8 cap) s) :
    Calls Try.prog 58 #[.agg #[.slice oa p.regs.length capa, .slice oc p.code.length capc], .agg #[.int .i64 op, .int .i64 a, .int .i64 b, .int .i64 c, .int .i64 n], .slice (some ⟨ba, 0, none⟩) 8 cap] w fun e w' => e = .returned (.bool (!quietK p s ⟨op, a, b, c, n⟩)) ∧ Ext w w' := by
  by_cases e3 : op = 3
  · exact secret_load p s op a b c n e3 hr hok w hp hk
  by_cases e4 : op = 4
  · exact secret_put p s op a b c n e4 hr hok w hp hk
  by_cases e6 : op = 6
  · exact secret_putk p s op a b c n e6 hr hok w hp hk
  by_cases e8 : op = 8
  · exact secret_if p s op a b c n e8 hr hok w hp hk
  by_cases e9 : op = 9
  · exact secret_halt p s op a b c n e9 hr hok w hp hk
  by_cases e29 : op = 29
  · exact secret_div29 p s op a b c n e29 hr hok w hp hk
  by_cases e30 : op = 30
  · exact secret_div30 p s op a b c n e30 hr hok w hp hk
  exact secret_rest p s op a b c n ⟨e3, e4, e6, e8, e9, e29, e30⟩ hr hok w hp hk
end Go.Proofs.Yteiknefajlocoaa
