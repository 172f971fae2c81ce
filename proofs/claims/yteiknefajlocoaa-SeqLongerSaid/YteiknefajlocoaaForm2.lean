/- Walks of the looker. -/
import Derived.Test.YteiknefajlocoaaForm1
import Derived.Test.YteiknefajlocoaaUpd
import Derived.Test.YteiknefajlocoaaRegion
namespace Go.Proofs.Yteiknefajlocoaa
open Go.ChangeShapes Go.WideShapes Go.ChangeAt Go.RowKit

theorem index_ints {oa : Option Addr} {n b o cap : Nat} (h : 0 < n → oa = some ⟨b, o, none⟩) (W : World) (i : Int) (h0 : 0 ≤ i) (h1 : i < n) :
    (Instr.indexAt 71 (.slice oa n cap) (.int .i64 i)).run Try.prog W = .ok (.pointer (some ⟨b, o + i.toNat, none⟩)) W := by
  obtain rfl := h (by omega)
  have hs : (Try.prog.info? 2).map (·.size) = some 1 := by kernel_rfl
  simp [Instr.indexAt, run_underlying Try.underlying71, asIntOf, h0, h1]
  exact addr_add b o _

theorem take_and {α : Type} (f : α → Bool) (l : List α) (k : Nat) (d : α) (hk : k < l.length) (ok : Bool) : (ok && (l.take (k + 1)).all f) = (ok && (l.take k).all f && f (l.getD k d)) := by
  rw [List.take_succ_eq_append_getElem hk, List.all_append]
  simp [hk, Bool.and_assoc]
set_option maxHeartbeats 1000000 in
theorem in_c (g : Nat) (below : Int) (ok : Bool) (ns : List Int) (oa : Option Addr) (cap b o : Nat) (w : World) (hb : ∀ x ∈ ns, R64 x) (hc1 : ns.length ≤ cap) (hc2 : cap ≤ maxLen) (hR : Rows w oa b o ns.length 1 fun i _ => .int .i64 (ns.getD i default)) (hbg : g ≠ b)
    (hok : w.cell? ⟨g, 3, none⟩ = some (.bool ok) ∧ w.frozen? ⟨g, 3, none⟩ = false) :
    Calls Try.prog 145 #[.pointer (some ⟨g, 0, none⟩), .int .i64 below, .slice oa ns.length cap] w fun e w' => e = .returned (.tuple #[]) ∧ Ext (w.setCell ⟨g, 3, none⟩ (.bool (ok && ns.all (okIn below)))) w' := by
  go_enter Try.func145, Try.ntmps145
  have hix := index_ints (cap := cap) hR.at_
  have Hrow := Lib.hid hR
  have hlen := len_bd hc1 hc2
  clear hR hc1 hc2
  go_wp2_with fail
  go_loopw [10] (fun i wr => ∃ k : Nat, k ≤ ns.length ∧ i = .int .i64 k ∧ Ext (w.setCell ⟨g, 3, none⟩ (.bool (ok && (ns.take k).all (okIn below)))) wr) (fun i _ => ns.length - (intOf i).toNat)
  case atStart => exact ⟨0, by omega, rfl, by simpa using upd_refl hok.1 (Ext.refl w)⟩
  case round =>
    obtain ⟨k, hk, rfl, hE⟩ := hrel
    have d0 := upd_same hE hok
    by_cases hlt : k < ns.length
    · have e0 := upd_cell hE (by simp <;> omega) (Hrow.out.one k hlt)
      have hn := hb _ (getD_mem hlt)
      have Hs := Lib.hid (take_and (okIn below) ns k default hlt ok)
      have HE := Lib.hid hE
      clear hE
      generalize ns.getD k default = n at *
      generalize (ok && (ns.take k).all (okIn below)) = ok' at *
      have hfin : ∀ u, u = (ok' && okIn below n) → Ext (w.setCell ⟨g, 3, none⟩ (.bool (ok && (ns.take (k + 1)).all (okIn below)))) (wr.setCell ⟨g, 3, none⟩ (.bool u)) := fun u hu => by
        rw [Hs.out, ← hu]
        exact upd_trans HE.out (Ext.refl _)
      have Hf := Lib.hid hfin
      clear hfin
      cases ok'
      · go_wp2
        go_roundw
        case rel => exact ⟨k + 1, by omega, by go_num, Hf.out _ (by simp)⟩
        case measure => first | (simp [intOf]; done) | (simp [intOf]; omega)
      · by_cases h0 : 0 ≤ n
        · by_cases h1 : n < below
          · go_wp2
            go_roundw
            case rel => exact ⟨k + 1, by omega, by go_num, Hf.out _ (by simp [okIn, h0, h1])⟩
            case measure => first | (simp [intOf]; done) | (simp [intOf]; omega)
          · go_wp2
            go_roundw
            case rel => exact ⟨k + 1, by omega, by go_num, Hf.out _ (by simp [okIn, h0, h1])⟩
            case measure => first | (simp [intOf]; done) | (simp [intOf]; omega)
        · go_wp2
          go_roundw
          case rel => exact ⟨k + 1, by omega, by go_num, Hf.out _ (by simp [okIn, h0])⟩
          case measure => first | (simp [intOf]; done) | (simp [intOf]; omega)
    · have hke : k = ns.length := by omega
      subst hke
      rw [List.take_length] at hE
      go_wp2
      refine bodyPost_end (results_none rfl _ _ _) rfl ?_
      exact ⟨rfl, hE⟩

theorem rows_new (w : World) (T : TypeId) (ns : List Int) : Rows (w.alloc (.cells (ns.map (Value.int .i64)).toArray T)) (some ⟨w.heap.size, 0, none⟩) w.heap.size 0 ns.length 1 fun i _ => .int .i64 (ns.getD i default) :=
  ⟨fun _ => rfl, fun i j hi hj => by
    obtain rfl : j = 0 := by omega
    have := (Blk.new w T (ns.map (Value.int .i64)).toArray).cell i
    rw [show (0 + i * 1 + 0) = i by omega, this]
    simp [hi]⟩
theorem kept_new {w : World} {p : Addr} {v : Value} (o : Obj) (h : w.cell? p = some v ∧ w.frozen? p = false) : (w.alloc o).cell? p = some v ∧ (w.alloc o).frozen? p = false := kept2 ((Ext.refl w).alloc o) h
/-- in, of one number that has just been laid -/
theorem in1_c (g : Nat) (below : Int) (ok : Bool) (n : Int) (w : World) (T : TypeId) (hn : R64 n)
    (hok : w.cell? ⟨g, 3, none⟩ = some (.bool ok) ∧ w.frozen? ⟨g, 3, none⟩ = false) :
    Calls Try.prog 145 #[.pointer (some ⟨g, 0, none⟩), .int .i64 below, .slice (some ⟨w.heap.size, 0, none⟩) 1 1] (w.alloc (.cells #[.int .i64 n] T)) fun e w' => e = .returned (.tuple #[]) ∧ Ext (w.setCell ⟨g, 3, none⟩ (.bool (ok && okIn below n))) w' :=
  (in_c g below ok [n] _ 1 w.heap.size 0 _ (by simpa using hn) (by simp) (by decide) (rows_new w T [n]) (by have := block_lt hok.1; simp at this; omega) (kept_new _ hok)).mono fun e w' ⟨h1, h2⟩ => ⟨h1, by
    have := upd_after ((Ext.refl w).alloc _) h2
    simpa using this⟩

theorem index_int {oa : Option Addr} {n b o cap : Nat} (h : 0 < n → oa = some ⟨b, o, none⟩) (W : World) (i : Int) (h0 : 0 ≤ i) (h1 : i < n) :
    (Instr.indexAt 51 (.slice oa n cap) (.int .i64 i)).run Try.prog W = .ok (.pointer (some ⟨b, o + i.toNat, none⟩)) W := by
  obtain rfl := h (by omega)
  have hs : (Try.prog.info? 3).map (·.size) = some 1 := by kernel_rfl
  simp [Instr.indexAt, run_underlying Try.underlying51, asIntOf, h0, h1]
  exact addr_add b o _

set_option maxHeartbeats 1000000 in
theorem reg_c (g : Nat) (R : Int) (ok : Bool) (ns : List Int) (oa : Option Addr) (cap b o : Nat) (w : World) (hb : ∀ x ∈ ns, R64 x) (hc1 : ns.length ≤ cap) (hc2 : cap ≤ maxLen) (hR : Rows w oa b o ns.length 1 fun i _ => .int .i64 (ns.getD i default)) (hbg : g ≠ b)
    (hr : w.cell? ⟨g, 2, none⟩ = some (.int .i64 R)) (hok : w.cell? ⟨g, 3, none⟩ = some (.bool ok) ∧ w.frozen? ⟨g, 3, none⟩ = false) :
    Calls Try.prog 142 #[.pointer (some ⟨g, 0, none⟩), .slice oa ns.length cap] w fun e w' => e = .returned (.tuple #[]) ∧ Ext (w.setCell ⟨g, 3, none⟩ (.bool (ok && ns.all (okIn R)))) w' := by
  go_enter Try.func142, Try.ntmps142
  have hix := index_int (cap := cap) hR.at_
  have Hrow := Lib.hid hR
  have hlen := len_bd hc1 hc2
  clear hR hc1 hc2
  go_wp2_with fail
  go_loopw [8] (fun i wr => ∃ k : Nat, k ≤ ns.length ∧ i = .int .i64 k ∧ Ext (w.setCell ⟨g, 3, none⟩ (.bool (ok && (ns.take k).all (okIn R)))) wr) (fun i _ => ns.length - (intOf i).toNat)
  case atStart => exact ⟨0, by omega, rfl, by simpa using upd_refl hok.1 (Ext.refl w)⟩
  case round =>
    obtain ⟨k, hk, rfl, hE⟩ := hrel
    have d0 := upd_same hE hok
    have d2 := upd_cell hE (by simp) hr
    by_cases hlt : k < ns.length
    · have e0 := upd_cell hE (by simp <;> omega) (Hrow.out.one k hlt)
      have hn := hb _ (getD_mem hlt)
      have Hs := Lib.hid (take_and (okIn R) ns k default hlt ok)
      have HE := Lib.hid hE
      clear hE
      generalize ns.getD k default = n at *
      generalize (ok && (ns.take k).all (okIn R)) = ok' at *
      go_wp2_with fail
      refine (in1_c g R ok' n wr _ hn d0).mono ?_
      rintro e w2 ⟨rfl, hx⟩
      have hfin := Lib.hid (upd_trans HE.out hx)
      rw [← Hs.out] at hfin
      go_wp2
      go_roundw
      case rel => exact ⟨k + 1, by omega, by go_num, hfin.out⟩
      case measure => first | (simp [intOf]; done) | (simp [intOf]; omega)
    · have hke : k = ns.length := by omega
      subst hke
      rw [List.take_length] at hE
      go_wp2
      refine bodyPost_end (results_none rfl _ _ _) rfl ?_
      exact ⟨rfl, hE⟩

set_option maxHeartbeats 1000000 in
theorem region_c (g : Nat) (ok : Bool) (oa : Option Addr) (len cap : Nat) (n : Int) (w : World) (hn : R64 n)
    (hr : w.cell? ⟨g, 0, none⟩ = some (.slice oa len cap)) (hok : w.cell? ⟨g, 3, none⟩ = some (.bool ok) ∧ w.frozen? ⟨g, 3, none⟩ = false) :
    Calls Try.prog 144 #[.pointer (some ⟨g, 0, none⟩), .int .i64 n] w fun e w' => e = .returned (.tuple #[]) ∧ Ext (w.setCell ⟨g, 3, none⟩ (.bool (ok && okIn len n))) w' := by
  go_enter Try.func144, Try.ntmps144
  go_wp2_with fail
  refine (in1_c g len ok n w _ hn hok).mono ?_
  rintro e w2 ⟨rfl, hx⟩
  go_wp2
  refine bodyPost_end (results_none rfl _ _ _) rfl ?_
  exact ⟨rfl, hx⟩

set_option maxHeartbeats 1000000 in
theorem nought_c (g : Nat) (ok : Bool) (m : Int) (hm : R64 m) (ns : List Int) (oa : Option Addr) (cap b o : Nat) (w : World) (hb : ∀ x ∈ ns, R64 x) (hc1 : ns.length ≤ cap) (hc2 : cap ≤ maxLen) (hR : Rows w oa b o ns.length 1 fun i _ => .int .i64 (ns.getD i default)) (hbg : g ≠ b)
    (hok : w.cell? ⟨g, 3, none⟩ = some (.bool ok) ∧ w.frozen? ⟨g, 3, none⟩ = false) :
    Calls Try.prog 143 #[.pointer (some ⟨g, 0, none⟩), .int .i64 m, .slice oa ns.length cap] w fun e w' => e = .returned (.tuple #[]) ∧ Ext (w.setCell ⟨g, 3, none⟩ (.bool (ok && okIn 1 m && ns.all (okIn 1)))) w' := by
  go_enter Try.func143, Try.ntmps143
  have hix := index_int (cap := cap) hR.at_
  have Hrow := Lib.hid hR
  have hlen := len_bd hc1 hc2
  clear hR hc1 hc2
  go_wp2_with fail
  refine (in1_c g 1 ok m w _ hm hok).mono ?_
  rintro e w1 ⟨rfl, hx1⟩
  generalize hok1 : (ok && okIn 1 m) = ok1 at *
  have Hok := Lib.hid hok1
  clear hok1
  have Hx1 := Lib.hid hx1
  clear hx1
  go_wp2_with fail
  go_loopw [14] (fun i wr => ∃ k : Nat, k ≤ ns.length ∧ i = .int .i64 k ∧ Ext (w.setCell ⟨g, 3, none⟩ (.bool (ok1 && (ns.take k).all (okIn 1)))) wr) (fun i _ => ns.length - (intOf i).toNat)
  case atStart => exact ⟨0, by omega, rfl, by simpa using Hx1.out⟩
  case round =>
    obtain ⟨k, hk, rfl, hE⟩ := hrel
    have d0 := upd_same hE hok
    by_cases hlt : k < ns.length
    · have e0 := upd_cell hE (by simp <;> omega) (Hrow.out.one k hlt)
      have hn := hb _ (getD_mem hlt)
      have Hs := Lib.hid (take_and (okIn 1) ns k default hlt ok1)
      have HE := Lib.hid hE
      clear hE
      generalize ns.getD k default = n at *
      generalize (ok1 && (ns.take k).all (okIn 1)) = ok' at *
      go_wp2_with fail
      refine (in1_c g 1 ok' n wr _ hn d0).mono ?_
      rintro e w2 ⟨rfl, hx⟩
      have hfin := Lib.hid (upd_trans HE.out hx)
      rw [← Hs.out] at hfin
      go_wp2
      go_roundw
      case rel => exact ⟨k + 1, by omega, by go_num, hfin.out⟩
      case measure => first | (simp [intOf]; done) | (simp [intOf]; omega)
    · have hke : k = ns.length := by omega
      subst hke
      rw [List.take_length] at hE
      go_wp2
      refine bodyPost_end (results_none rfl _ _ _) rfl ?_
      exact ⟨rfl, by rw [Hok.out]; exact hE⟩
end Go.Proofs.Yteiknefajlocoaa
