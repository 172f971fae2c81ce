/- Laid together from: Form1, Form2. -/
import Derived.Test.YteiknefajlocoaaProg
import Derived.Test.YteiknefajlocoaaHardenSameB7
import Derived.WalkLawsBesides
import Derived.WalkSpells
import Derived.Outline
import Derived.Deep.RegionWith
import Derived.Deep.DeepCutAuto
import Derived.Test.YteiknefajlocoaaHardenSameB11

/- Walks of layout's and the reference's small functions. -/
namespace Go.Proofs.Yteiknefajlocoaa
open Go.ChangeShapes Go.WideShapes Go.ChangeAt Go.RowKit

theorem addr_add (b o n : Nat) : (Addr.add ⟨b, o, none⟩ n) = ⟨b, o + n, none⟩ := by
  unfold Addr.add
  split
  · subst_vars; rfl
  · rfl
theorem take_all {α : Type} (f : α → Bool) (l : List α) (k : Nat) (d : α) (hk : k < l.length) (h : (l.take k).all f = true) : (l.take (k + 1)).all f = f (l.getD k d) := by
  rw [List.take_succ_eq_append_getElem hk, List.all_append, h]
  simp [hk]
theorem all_false {α : Type} (f : α → Bool) (l : List α) (k : Nat) (d : α) (hk : k < l.length) (h : f (l.getD k d) = false) : l.all f = false := by
  rw [List.all_eq_false]
  exact ⟨l[k], List.getElem_mem hk, by simpa [hk] using h⟩
theorem index_regs {oa : Option Addr} {n b o cap : Nat} (h : 0 < n → oa = some ⟨b, o, none⟩) (W : World) (i : Int) (h0 : 0 ≤ i) (h1 : i < n) :
    (Instr.indexAt 22 (.slice oa n cap) (.int .i64 i)).run Try.prog W = .ok (.pointer (some ⟨b, o + i.toNat * 2, none⟩)) W := by
  obtain rfl := h (by omega)
  have hs : (Try.prog.info? 68).map (·.size) = some 2 := by kernel_rfl
  simp [Instr.indexAt, run_underlying Try.underlying22, asIntOf, h0, h1]
  exact addr_add b o _

set_option maxHeartbeats 1000000 in
theorem regions_c (p : LProg) (v : Value) (w : World) (hp : ProgAt w v p) :
    Calls Try.prog 121 #[v] w fun e w' => e = .returned (.bool (regsOk p.regs)) ∧ Ext w w' := by
  obtain ⟨v1, v2, rfl, ⟨hb, oa, cap, b, o, rfl, hc1, hc2, hat, hrow⟩, -⟩ := hp
  go_enter Try.func121, Try.ntmps121
  have hix := index_regs (cap := cap) hat
  have Hrow := Lib.hid (Rows.mk hat hrow)
  clear hat hrow
  go_wp2_with fail
  obtain ⟨w0, g, hg, hW, hx, c0, c1⟩ := new2 w 25 (.slice oa p.regs.length cap) v2
  rw [hW, hg]
  have Hr := Lib.hid (Hrow.out.ext hx)
  have Hx := Lib.hid hx
  have hlen := len_bd hc1 hc2
  clear hW hg hx Hrow hc1 hc2
  go_loopw [8] (fun i wr => ∃ k : Nat, k ≤ p.regs.length ∧ i = .int .i64 k ∧ Ext w0 wr ∧ (p.regs.take k).all regOk = true) (fun i _ => p.regs.length - (intOf i).toNat)
  case atStart => exact ⟨0, by omega, rfl, Ext.refl _, by simp⟩
  case round =>
    obtain ⟨k, hk, rfl, hE, hall⟩ := hrel
    by_cases hlt : k < p.regs.length
    · obtain ⟨e0, e1⟩ := (Hr.out.ext hE).reg k hlt
      have hr := hb _ (getD_mem hlt)
      have Hn := Lib.hid (take_all regOk p.regs k default hlt hall)
      have Hf := Lib.hid (all_false regOk p.regs k default hlt)
      generalize p.regs.getD k default = r at *
      by_cases h0 : 0 ≤ r.log
      · by_cases h6 : r.log ≤ 6
        · have hok : regOk r = true := by simp [regOk, h0, h6]
          go_wp2
          go_roundw
          case rel => exact ⟨k + 1, by omega, by go_num, (hE.alloc _), by rw [Hn.out, hok]⟩
          case measure => first | (simp [intOf]; done) | (simp [intOf]; omega)
        · have hok : regOk r = false := by simp [regOk, h0, h6]
          have hfin : regsOk p.regs = false := by simp [regsOk, Hf.out hok]
          go_wp2
          go_ret
          exact ⟨rfl, (Hx.out.trans hE).alloc _⟩
      · have hok : regOk r = false := by simp [regOk, h0]
        have hfin : regsOk p.regs = false := by simp [regsOk, Hf.out hok]
        go_wp2
        go_ret
        exact ⟨rfl, (Hx.out.trans hE).alloc _⟩
    · have d0 := hE.kept c0.1
      have hke : k = p.regs.length := by omega
      subst hke
      rw [List.take_length] at hall
      go_wp2
      go_ret
      exact ⟨ret_b (by simp [regsOk, hall]; omega), Hx.out.trans hE⟩

set_option maxHeartbeats 1000000 in
theorem words_c (r : LReg) (h0 : 0 ≤ r.log) (h6 : r.log ≤ 6) (w : World) :
    Calls Try.prog 73 #[.agg #[.int .i64 r.log, .bool r.secret]] w fun e w' => e = .returned (.int .i64 (wordsOf r : Nat)) ∧ Ext w w' := by
  unfold wordsOf
  generalize r.log = l at *
  generalize r.secret = s
  have hl : l = 0 ∨ l = 1 ∨ l = 2 ∨ l = 3 ∨ l = 4 ∨ l = 5 ∨ l = 6 := by omega
  rcases hl with rfl | rfl | rfl | rfl | rfl | rfl | rfl
  all_goals
    go_enter Try.func73, Try.ntmps73
    go_wp2
    go_ret
    exact ⟨rfl, (Ext.refl w).alloc _⟩

theorem pow_step (k : Nat) : ((2 ^ k : Nat) : Int) + ((2 ^ k : Nat) : Int) = ((2 ^ (k + 1) : Nat) : Int) := by
  rw [Nat.pow_succ]; omega
set_option maxHeartbeats 1000000 in
theorem rWords_c (r : LReg) (h0 : 0 ≤ r.log) (h6 : r.log ≤ 6) (w : World) :
    Calls Try.prog 61 #[.agg #[.int .i64 r.log, .bool r.secret]] w fun e w' => e = .returned (.int .i64 (wordsOf r : Nat)) ∧ Ext w w' := by
  unfold wordsOf
  generalize r.log = l at *
  generalize r.secret = s
  go_enter Try.func61, Try.ntmps61
  go_wp2_with fail
  obtain ⟨w0, g, hg, hW, hx, c0, c1⟩ := new2 w 68 (.int .i64 l) (.bool s)
  rw [hW, hg]
  have Hx := Lib.hid hx
  clear hW hg hx
  go_loopw [3, 4] (fun n i wr => ∃ k : Nat, (k : Int) ≤ l ∧ i = .int .i64 k ∧ n = .int .i64 (2 ^ k : Nat) ∧ Ext w0 wr) (fun _ i _ => 6 - (intOf i).toNat)
  case atStart => exact ⟨0, by omega, rfl, rfl, Ext.refl _⟩
  case round =>
    obtain ⟨k, hk, rfl, rfl, hE⟩ := hrel
    have d0 := hE.kept c0.1
    by_cases hlt : (k : Int) < l
    · have hp := Lib.hid (pow_step k)
      have hb : ((2 ^ k : Nat) : Int) ≤ 32 := by
        have : k = 0 ∨ k = 1 ∨ k = 2 ∨ k = 3 ∨ k = 4 ∨ k = 5 := by omega
        rcases this with rfl | rfl | rfl | rfl | rfl | rfl <;> decide
      have hb0 : (0 : Int) ≤ ((2 ^ k : Nat) : Int) := Int.natCast_nonneg _
      generalize ((2 ^ k : Nat) : Int) = q at *
      go_wp2
      go_roundw
      case rel => exact ⟨k + 1, by omega, by go_num, by rw [hp.out], hE⟩
      case measure => first | (simp [intOf]; done) | (simp [intOf]; omega)
    · have hke : l.toNat = k := by omega
      go_wp2
      go_ret
      exact ⟨rfl, Hx.out.trans hE⟩

set_option maxHeartbeats 1000000 in
theorem rRegions_c (p : LProg) (v : Value) (w : World) (hp : ProgAt w v p) :
    Calls Try.prog 60 #[v] w fun e w' => e = .returned (.bool (regsOk p.regs)) ∧ Ext w w' := by
  obtain ⟨v1, v2, rfl, ⟨hb, oa, cap, b, o, rfl, hc1, hc2, hat, hrow⟩, -⟩ := hp
  go_enter Try.func60, Try.ntmps60
  have hix := index_regs (cap := cap) hat
  have Hrow := Lib.hid (Rows.mk hat hrow)
  have hlen := len_bd hc1 hc2
  clear hat hrow hc1 hc2
  by_cases h6 : p.regs.length ≤ 6
  · have h6' : (p.regs.length : Int) ≤ 6 := by omega
    go_wp2_with fail
    obtain ⟨w0, g, hg, hW, hx, c0, c1⟩ := new2 w 25 (.slice oa p.regs.length cap) v2
    rw [hW, hg]
    have Hr := Lib.hid (Hrow.out.ext hx)
    have Hx := Lib.hid hx
    clear hW hg hx Hrow
    go_loopw [3] (fun i wr => ∃ k : Nat, k ≤ p.regs.length ∧ i = .int .i64 k ∧ Ext w0 wr ∧ (p.regs.take k).all regOk = true) (fun i _ => p.regs.length - (intOf i).toNat)
    case atStart => exact ⟨0, by omega, rfl, Ext.refl _, by simp⟩
    case round =>
      obtain ⟨k, hk, rfl, hE, hall⟩ := hrel
      have d0 := hE.kept c0.1
      by_cases hlt : k < p.regs.length
      · obtain ⟨e0, e1⟩ := (Hr.out.ext hE).reg k hlt
        have hr := hb _ (getD_mem hlt)
        have Hn := Lib.hid (take_all regOk p.regs k default hlt hall)
        have Hf := Lib.hid (all_false regOk p.regs k default hlt)
        generalize p.regs.getD k default = r at *
        by_cases h0 : 0 ≤ r.log
        · by_cases h6 : r.log ≤ 6
          · have hok : regOk r = true := by simp [regOk, h0, h6]
            go_wp2
            go_roundw
            case rel => exact ⟨k + 1, by omega, by go_num, hE, by rw [Hn.out, hok]⟩
            case measure => first | (simp [intOf]; done) | (simp [intOf]; omega)
          · have hok : regOk r = false := by simp [regOk, h0, h6]
            have hfin : regsOk p.regs = false := by simp [regsOk, Hf.out hok]
            go_wp2
            go_ret
            exact ⟨rfl, Hx.out.trans hE⟩
        · have hok : regOk r = false := by simp [regOk, h0]
          have hfin : regsOk p.regs = false := by simp [regsOk, Hf.out hok]
          go_wp2
          go_ret
          exact ⟨rfl, Hx.out.trans hE⟩
      · have hke : k = p.regs.length := by omega
        subst hke
        rw [List.take_length] at hall
        go_wp2
        go_ret
        exact ⟨ret_b (by simp [regsOk, hall]; omega), Hx.out.trans hE⟩
  · have hfin : regsOk p.regs = false := by simp [regsOk, h6]
    have h6' : ¬ (p.regs.length : Int) ≤ 6 := by omega
    go_wp2
    go_ret
    exact ⟨rfl, (Ext.refl w).alloc _⟩
end Go.Proofs.Yteiknefajlocoaa
/- Walks of the looker. -/
namespace Go.Proofs.Yteiknefajlocoaa
open Go.ChangeShapes Go.WideShapes Go.ChangeAt Go.RowKit

theorem index_ints {oa : Option Addr} {n b o cap : Nat} (h : 0 < n → oa = some ⟨b, o, none⟩) (W : World) (i : Int) (h0 : 0 ≤ i) (h1 : i < n) :
    (Instr.indexAt 71 (.slice oa n cap) (.int .i64 i)).run Try.prog W = .ok (.pointer (some ⟨b, o + i.toNat, none⟩)) W := by
  obtain rfl := h (by omega)
  have hs : (Try.prog.info? 2).map (·.size) = some 1 := by kernel_rfl
  simp [Instr.indexAt, run_underlying Try.underlying71, asIntOf, h0, h1]
  exact addr_add b o _

theorem take_and {α : Type} (f : α → Bool) (l : List α) (k : Nat) (d : α) (hk : k < l.length) (ok : Bool) : (ok && (l.take (k + 1)).all f) = (ok && (l.take k).all f && f (l.getD k d)) := by
  rw [List.take_succ_eq_append_getElem hk, List.all_append]
  simp [hk, Bool.and_assoc]
set_option maxHeartbeats 1000000 in
theorem in_c (g : Nat) (below : Int) (ok : Bool) (ns : List Int) (oa : Option Addr) (cap b o : Nat) (w : World) (hb : ∀ x ∈ ns, R64 x) (hc1 : ns.length ≤ cap) (hc2 : cap ≤ maxLen) (hR : Rows w oa b o ns.length 1 fun i _ => .int .i64 (ns.getD i default)) (hbg : g ≠ b)
    (hok : w.cell? ⟨g, 3, none⟩ = some (.bool ok) ∧ w.frozen? ⟨g, 3, none⟩ = false) :
    Calls Try.prog 145 #[.pointer (some ⟨g, 0, none⟩), .int .i64 below, .slice oa ns.length cap] w fun e w' => e = .returned (.tuple #[]) ∧ Ext (w.setCell ⟨g, 3, none⟩ (.bool (ok && ns.all (okIn below)))) w' := by
  go_enter Try.func145, Try.ntmps145
  have hix := index_ints (cap := cap) hR.at_
  have Hrow := Lib.hid hR
  have hlen := len_bd hc1 hc2
  clear hR hc1 hc2
  go_wp2_with fail
  go_loopw [10] (fun i wr => ∃ k : Nat, k ≤ ns.length ∧ i = .int .i64 k ∧ Ext (w.setCell ⟨g, 3, none⟩ (.bool (ok && (ns.take k).all (okIn below)))) wr) (fun i _ => ns.length - (intOf i).toNat)
  case atStart => exact ⟨0, by omega, rfl, by simpa using upd_refl hok.1 (Ext.refl w)⟩
  case round =>
    obtain ⟨k, hk, rfl, hE⟩ := hrel
    have d0 := upd_same hE hok
    by_cases hlt : k < ns.length
    · have e0 := upd_cell hE (by simp <;> omega) (Hrow.out.one k hlt)
      have hn := hb _ (getD_mem hlt)
      have Hs := Lib.hid (take_and (okIn below) ns k default hlt ok)
      have HE := Lib.hid hE
      clear hE
      generalize ns.getD k default = n at *
      generalize (ok && (ns.take k).all (okIn below)) = ok' at *
      have hfin : ∀ u, u = (ok' && okIn below n) → Ext (w.setCell ⟨g, 3, none⟩ (.bool (ok && (ns.take (k + 1)).all (okIn below)))) (wr.setCell ⟨g, 3, none⟩ (.bool u)) := fun u hu => by
        rw [Hs.out, ← hu]
        exact upd_trans HE.out (Ext.refl _)
      have Hf := Lib.hid hfin
      clear hfin
      cases ok'
      · go_wp2
        go_roundw
        case rel => exact ⟨k + 1, by omega, by go_num, Hf.out _ (by simp)⟩
        case measure => first | (simp [intOf]; done) | (simp [intOf]; omega)
      · by_cases h0 : 0 ≤ n
        · by_cases h1 : n < below
          · go_wp2
            go_roundw
            case rel => exact ⟨k + 1, by omega, by go_num, Hf.out _ (by simp [okIn, h0, h1])⟩
            case measure => first | (simp [intOf]; done) | (simp [intOf]; omega)
          · go_wp2
            go_roundw
            case rel => exact ⟨k + 1, by omega, by go_num, Hf.out _ (by simp [okIn, h0, h1])⟩
            case measure => first | (simp [intOf]; done) | (simp [intOf]; omega)
        · go_wp2
          go_roundw
          case rel => exact ⟨k + 1, by omega, by go_num, Hf.out _ (by simp [okIn, h0])⟩
          case measure => first | (simp [intOf]; done) | (simp [intOf]; omega)
    · have hke : k = ns.length := by omega
      subst hke
      rw [List.take_length] at hE
      go_wp2
      refine bodyPost_end (results_none rfl _ _ _) rfl ?_
      exact ⟨rfl, hE⟩

theorem rows_new (w : World) (T : TypeId) (ns : List Int) : Rows (w.alloc (.cells (ns.map (Value.int .i64)).toArray T)) (some ⟨w.heap.size, 0, none⟩) w.heap.size 0 ns.length 1 fun i _ => .int .i64 (ns.getD i default) :=
  ⟨fun _ => rfl, fun i j hi hj => by
    obtain rfl : j = 0 := by omega
    have := (Blk.new w T (ns.map (Value.int .i64)).toArray).cell i
    rw [show (0 + i * 1 + 0) = i by omega, this]
    simp [hi]⟩
theorem kept_new {w : World} {p : Addr} {v : Value} (o : Obj) (h : w.cell? p = some v ∧ w.frozen? p = false) : (w.alloc o).cell? p = some v ∧ (w.alloc o).frozen? p = false := kept2 ((Ext.refl w).alloc o) h
/-- in, of one number that has just been laid -/
theorem in1_c (g : Nat) (below : Int) (ok : Bool) (n : Int) (w : World) (T : TypeId) (hn : R64 n)
    (hok : w.cell? ⟨g, 3, none⟩ = some (.bool ok) ∧ w.frozen? ⟨g, 3, none⟩ = false) :
    Calls Try.prog 145 #[.pointer (some ⟨g, 0, none⟩), .int .i64 below, .slice (some ⟨w.heap.size, 0, none⟩) 1 1] (w.alloc (.cells #[.int .i64 n] T)) fun e w' => e = .returned (.tuple #[]) ∧ Ext (w.setCell ⟨g, 3, none⟩ (.bool (ok && okIn below n))) w' :=
  (in_c g below ok [n] _ 1 w.heap.size 0 _ (by simpa using hn) (by simp) (by decide) (rows_new w T [n]) (by have := block_lt hok.1; simp at this; omega) (kept_new _ hok)).mono fun e w' ⟨h1, h2⟩ => ⟨h1, by
    have := upd_after ((Ext.refl w).alloc _) h2
    simpa using this⟩

theorem index_int {oa : Option Addr} {n b o cap : Nat} (h : 0 < n → oa = some ⟨b, o, none⟩) (W : World) (i : Int) (h0 : 0 ≤ i) (h1 : i < n) :
    (Instr.indexAt 51 (.slice oa n cap) (.int .i64 i)).run Try.prog W = .ok (.pointer (some ⟨b, o + i.toNat, none⟩)) W := by
  obtain rfl := h (by omega)
  have hs : (Try.prog.info? 3).map (·.size) = some 1 := by kernel_rfl
  simp [Instr.indexAt, run_underlying Try.underlying51, asIntOf, h0, h1]
  exact addr_add b o _

set_option maxHeartbeats 1000000 in
theorem reg_c (g : Nat) (R : Int) (ok : Bool) (ns : List Int) (oa : Option Addr) (cap b o : Nat) (w : World) (hb : ∀ x ∈ ns, R64 x) (hc1 : ns.length ≤ cap) (hc2 : cap ≤ maxLen) (hR : Rows w oa b o ns.length 1 fun i _ => .int .i64 (ns.getD i default)) (hbg : g ≠ b)
    (hr : w.cell? ⟨g, 2, none⟩ = some (.int .i64 R)) (hok : w.cell? ⟨g, 3, none⟩ = some (.bool ok) ∧ w.frozen? ⟨g, 3, none⟩ = false) :
    Calls Try.prog 142 #[.pointer (some ⟨g, 0, none⟩), .slice oa ns.length cap] w fun e w' => e = .returned (.tuple #[]) ∧ Ext (w.setCell ⟨g, 3, none⟩ (.bool (ok && ns.all (okIn R)))) w' := by
  go_enter Try.func142, Try.ntmps142
  have hix := index_int (cap := cap) hR.at_
  have Hrow := Lib.hid hR
  have hlen := len_bd hc1 hc2
  clear hR hc1 hc2
  go_wp2_with fail
  go_loopw [8] (fun i wr => ∃ k : Nat, k ≤ ns.length ∧ i = .int .i64 k ∧ Ext (w.setCell ⟨g, 3, none⟩ (.bool (ok && (ns.take k).all (okIn R)))) wr) (fun i _ => ns.length - (intOf i).toNat)
  case atStart => exact ⟨0, by omega, rfl, by simpa using upd_refl hok.1 (Ext.refl w)⟩
  case round =>
    obtain ⟨k, hk, rfl, hE⟩ := hrel
    have d0 := upd_same hE hok
    have d2 := upd_cell hE (by simp) hr
    by_cases hlt : k < ns.length
    · have e0 := upd_cell hE (by simp <;> omega) (Hrow.out.one k hlt)
      have hn := hb _ (getD_mem hlt)
      have Hs := Lib.hid (take_and (okIn R) ns k default hlt ok)
      have HE := Lib.hid hE
      clear hE
      generalize ns.getD k default = n at *
      generalize (ok && (ns.take k).all (okIn R)) = ok' at *
      go_wp2_with fail
      refine (in1_c g R ok' n wr _ hn d0).mono ?_
      rintro e w2 ⟨rfl, hx⟩
      have hfin := Lib.hid (upd_trans HE.out hx)
      rw [← Hs.out] at hfin
      go_wp2
      go_roundw
      case rel => exact ⟨k + 1, by omega, by go_num, hfin.out⟩
      case measure => first | (simp [intOf]; done) | (simp [intOf]; omega)
    · have hke : k = ns.length := by omega
      subst hke
      rw [List.take_length] at hE
      go_wp2
      refine bodyPost_end (results_none rfl _ _ _) rfl ?_
      exact ⟨rfl, hE⟩

set_option maxHeartbeats 1000000 in
theorem region_c (g : Nat) (ok : Bool) (oa : Option Addr) (len cap : Nat) (n : Int) (w : World) (hn : R64 n)
    (hr : w.cell? ⟨g, 0, none⟩ = some (.slice oa len cap)) (hok : w.cell? ⟨g, 3, none⟩ = some (.bool ok) ∧ w.frozen? ⟨g, 3, none⟩ = false) :
    Calls Try.prog 144 #[.pointer (some ⟨g, 0, none⟩), .int .i64 n] w fun e w' => e = .returned (.tuple #[]) ∧ Ext (w.setCell ⟨g, 3, none⟩ (.bool (ok && okIn len n))) w' := by
  go_enter Try.func144, Try.ntmps144
  go_wp2_with fail
  refine (in1_c g len ok n w _ hn hok).mono ?_
  rintro e w2 ⟨rfl, hx⟩
  go_wp2
  refine bodyPost_end (results_none rfl _ _ _) rfl ?_
  exact ⟨rfl, hx⟩

set_option maxHeartbeats 1000000 in
theorem nought_c (g : Nat) (ok : Bool) (m : Int) (hm : R64 m) (ns : List Int) (oa : Option Addr) (cap b o : Nat) (w : World) (hb : ∀ x ∈ ns, R64 x) (hc1 : ns.length ≤ cap) (hc2 : cap ≤ maxLen) (hR : Rows w oa b o ns.length 1 fun i _ => .int .i64 (ns.getD i default)) (hbg : g ≠ b)
    (hok : w.cell? ⟨g, 3, none⟩ = some (.bool ok) ∧ w.frozen? ⟨g, 3, none⟩ = false) :
    Calls Try.prog 143 #[.pointer (some ⟨g, 0, none⟩), .int .i64 m, .slice oa ns.length cap] w fun e w' => e = .returned (.tuple #[]) ∧ Ext (w.setCell ⟨g, 3, none⟩ (.bool (ok && okIn 1 m && ns.all (okIn 1)))) w' := by
  go_enter Try.func143, Try.ntmps143
  have hix := index_int (cap := cap) hR.at_
  have Hrow := Lib.hid hR
  have hlen := len_bd hc1 hc2
  clear hR hc1 hc2
  go_wp2_with fail
  refine (in1_c g 1 ok m w _ hm hok).mono ?_
  rintro e w1 ⟨rfl, hx1⟩
  generalize hok1 : (ok && okIn 1 m) = ok1 at *
  have Hok := Lib.hid hok1
  clear hok1
  have Hx1 := Lib.hid hx1
  clear hx1
  go_wp2_with fail
  go_loopw [14] (fun i wr => ∃ k : Nat, k ≤ ns.length ∧ i = .int .i64 k ∧ Ext (w.setCell ⟨g, 3, none⟩ (.bool (ok1 && (ns.take k).all (okIn 1)))) wr) (fun i _ => ns.length - (intOf i).toNat)
  case atStart => exact ⟨0, by omega, rfl, by simpa using Hx1.out⟩
  case round =>
    obtain ⟨k, hk, rfl, hE⟩ := hrel
    have d0 := upd_same hE hok
    by_cases hlt : k < ns.length
    · have e0 := upd_cell hE (by simp <;> omega) (Hrow.out.one k hlt)
      have hn := hb _ (getD_mem hlt)
      have Hs := Lib.hid (take_and (okIn 1) ns k default hlt ok1)
      have HE := Lib.hid hE
      clear hE
      generalize ns.getD k default = n at *
      generalize (ok1 && (ns.take k).all (okIn 1)) = ok' at *
      go_wp2_with fail
      refine (in1_c g 1 ok' n wr _ hn d0).mono ?_
      rintro e w2 ⟨rfl, hx⟩
      have hfin := Lib.hid (upd_trans HE.out hx)
      rw [← Hs.out] at hfin
      go_wp2
      go_roundw
      case rel => exact ⟨k + 1, by omega, by go_num, hfin.out⟩
      case measure => first | (simp [intOf]; done) | (simp [intOf]; omega)
    · have hke : k = ns.length := by omega
      subst hke
      rw [List.take_length] at hE
      go_wp2
      refine bodyPost_end (results_none rfl _ _ _) rfl ?_
      exact ⟨rfl, by rw [Hok.out]; exact hE⟩
end Go.Proofs.Yteiknefajlocoaa
