/- Walks of package word: Get. -/
import Derived.Test.YtoaapneihcfieabWord1
import Derived.Test.YtoaapneihcfieabWord3
import Derived.Test.YtoaapneihcfieabApp
namespace Go.Proofs.Ytoaapneihcfieab
open Go.ChangeShapes Go.WideShapes Go.ChangeAt Go.RowKit
set_option linter.unusedVariables false
set_option linter.unusedSimpArgs false

theorem and_mask (a : Int) (k : Nat) (m : Int) (h0 : 0 ≤ a) (h1 : a < 4294967296) (hm : (BitVec.ofInt 32 m).toNat = 2 ^ k - 1) : bits .and .u32 a m = a % ((2 ^ k : Nat) : Int) := by
  have e : bits .and .u32 a m = IntKind.u32.wrap ((BitVec.ofInt 32 a &&& BitVec.ofInt 32 m).toNat : Int) := rfl
  rw [e, BitVec.toNat_and, hm, Nat.and_two_pow_sub_one_eq_mod, BitVec.toNat_ofInt]
  have h2 : (a % ((2 ^ 32 : Nat) : Int)).toNat = a.toNat := by omega
  rw [h2]
  have h3 : a.toNat % 2 ^ k ≤ a.toNat := Nat.mod_le _ _
  rw [wrap_u32' _ (by omega) (by omega), Int.natCast_emod, Int.toNat_of_nonneg h0]
theorem wrap_i64' (z : Int) (h0 : 0 ≤ z) (h1 : z < 9223372036854775808) : IntKind.i64.wrap z = z := Go.IntWalk.i64_in _ (by omega)
theorem field26_c (x : Int) (h0 : 0 ≤ x) (h1 : x < 4294967296) (w : World) :
    Calls Try.prog 38 #[.int .u32 x, .int .i64 26, .int .i64 6] w fun e w' => e = .returned (.int .i64 (x / 16384 / 16 / 16 / 16)) ∧ Ext w w' := by
  go_enter Try.func38, Try.ntmps38
  go_upto_region 1 with fail
  refine region_calm 9 (by kernel_rfl) (by kernel_rfl) ?_
  simp only [List.take_succ_cons, List.take_zero, List.drop_succ_cons, List.drop_zero]
  repeat (first | (refine calm_value ?_ ?_ ?_; (decide); (first | rfl | (focus (go_simp; done))); apply Exists.intro; refine ⟨fun wc hE => ?_, ?_⟩; (go_simp; exact rfl); go_simp))
  refine calm_nil ?_
  intro wx hx
  go_wp2
  go_ret
  refine ⟨ret_i (a := IntKind.i64.wrap (bits .and .u32 (x / 67108864) (IntKind.u32.wrap (IntKind.u32.wrap 64 - 1)))) ?_, hx⟩
  rw [and_mask (x / 67108864) 6 _ (by omega) (by omega) (by decide), wrap_i64' _ (by omega) (by omega)]
  omega
theorem field22_c (x : Int) (h0 : 0 ≤ x) (h1 : x < 4294967296) (w : World) :
    Calls Try.prog 38 #[.int .u32 x, .int .i64 22, .int .i64 4] w fun e w' => e = .returned (.int .i64 (x / 16384 / 16 / 16 % 16)) ∧ Ext w w' := by
  go_enter Try.func38, Try.ntmps38
  go_upto_region 1 with fail
  refine region_calm 9 (by kernel_rfl) (by kernel_rfl) ?_
  simp only [List.take_succ_cons, List.take_zero, List.drop_succ_cons, List.drop_zero]
  repeat (first | (refine calm_value ?_ ?_ ?_; (decide); (first | rfl | (focus (go_simp; done))); apply Exists.intro; refine ⟨fun wc hE => ?_, ?_⟩; (go_simp; exact rfl); go_simp))
  refine calm_nil ?_
  intro wx hx
  go_wp2
  go_ret
  refine ⟨ret_i (a := IntKind.i64.wrap (bits .and .u32 (x / 4194304) (IntKind.u32.wrap (IntKind.u32.wrap 16 - 1)))) ?_, hx⟩
  rw [and_mask (x / 4194304) 4 _ (by omega) (by omega) (by decide), wrap_i64' _ (by omega) (by omega)]
  omega
theorem field18_c (x : Int) (h0 : 0 ≤ x) (h1 : x < 4294967296) (w : World) :
    Calls Try.prog 38 #[.int .u32 x, .int .i64 18, .int .i64 4] w fun e w' => e = .returned (.int .i64 (x / 16384 / 16 % 16)) ∧ Ext w w' := by
  go_enter Try.func38, Try.ntmps38
  go_upto_region 1 with fail
  refine region_calm 9 (by kernel_rfl) (by kernel_rfl) ?_
  simp only [List.take_succ_cons, List.take_zero, List.drop_succ_cons, List.drop_zero]
  repeat (first | (refine calm_value ?_ ?_ ?_; (decide); (first | rfl | (focus (go_simp; done))); apply Exists.intro; refine ⟨fun wc hE => ?_, ?_⟩; (go_simp; exact rfl); go_simp))
  refine calm_nil ?_
  intro wx hx
  go_wp2
  go_ret
  refine ⟨ret_i (a := IntKind.i64.wrap (bits .and .u32 (x / 262144) (IntKind.u32.wrap (IntKind.u32.wrap 16 - 1)))) ?_, hx⟩
  rw [and_mask (x / 262144) 4 _ (by omega) (by omega) (by decide), wrap_i64' _ (by omega) (by omega)]
  omega
theorem field14_c (x : Int) (h0 : 0 ≤ x) (h1 : x < 4294967296) (w : World) :
    Calls Try.prog 38 #[.int .u32 x, .int .i64 14, .int .i64 4] w fun e w' => e = .returned (.int .i64 (x / 16384 % 16)) ∧ Ext w w' := by
  go_enter Try.func38, Try.ntmps38
  go_upto_region 1 with fail
  refine region_calm 9 (by kernel_rfl) (by kernel_rfl) ?_
  simp only [List.take_succ_cons, List.take_zero, List.drop_succ_cons, List.drop_zero]
  repeat (first | (refine calm_value ?_ ?_ ?_; (decide); (first | rfl | (focus (go_simp; done))); apply Exists.intro; refine ⟨fun wc hE => ?_, ?_⟩; (go_simp; exact rfl); go_simp))
  refine calm_nil ?_
  intro wx hx
  go_wp2
  go_ret
  refine ⟨ret_i (a := IntKind.i64.wrap (bits .and .u32 (x / 16384) (IntKind.u32.wrap (IntKind.u32.wrap 16 - 1)))) ?_, hx⟩
  rw [and_mask (x / 16384) 4 _ (by omega) (by omega) (by decide), wrap_i64' _ (by omega) (by omega)]
  omega
theorem infoReg : (Try.prog.info? 90).map (fun i => (i.zero, i.size, i.bytes)) = some (some (.agg #[.int .i64 0, .bool false]), 2, 16) := by kernel_rfl
theorem infoIns : (Try.prog.info? 65).map (fun i => (i.zero, i.size, i.bytes)) = some (some (.agg #[.int .i64 0, .int .i64 0, .int .i64 0, .int .i64 0, .int .i64 0]), 5, 40) := by kernel_rfl
theorem ins_cells (x : Int) (h0 : 0 ≤ x) (h1 : x < 4294967296) : [Value.int .i64 (x / 16384 / 16 / 16 / 16), .int .i64 (x / 16384 / 16 / 16 % 16), .int .i64 (x / 16384 / 16 % 16), .int .i64 (x / 16384 % 16), .int .i64 (wrap64 (wrap32 (x * 262144 % 4294967296) / 262144))] = insCells (insW x) := by
  unfold insCells insW
  simp only [List.cons.injEq, Value.int.injEq, true_and, and_true]
  unfold wrap32 wrap64
  split <;> omega
theorem ins_fits64 (x : Int) (h0 : 0 ≤ x) (h1 : x < 4294967296) : (insW x).fits := by
  unfold LIns.fits insW R64
  simp only
  refine ⟨by omega, by omega, by omega, by omega, ?_⟩
  split <;> omega
/-- both results' cells, put just now -/
theorem get_put1 {w : World} {g : Nat} {T U : TypeId} {a b c d x y z u : Value} (hA : Blk w g T #[a, b]) (hB : Blk w (g + 1) U #[c, d]) :
    Blk ((((w.setCell ⟨g, 0, none⟩ x).setCell ⟨g, 1, none⟩ y).setCell ⟨g + 1, 0, none⟩ z).setCell ⟨g + 1, 1, none⟩ u) g T #[x, y] ∧ Blk ((((w.setCell ⟨g, 0, none⟩ x).setCell ⟨g, 1, none⟩ y).setCell ⟨g + 1, 0, none⟩ z).setCell ⟨g + 1, 1, none⟩ u) (g + 1) U #[z, u] :=
  ⟨(((hA.set_ 0 x).set_ 1 y).far (p := ⟨g + 1, 0, none⟩) (by simp) z).far (p := ⟨g + 1, 1, none⟩) (by simp) u, (((hB.far (p := ⟨g, 0, none⟩) (by simp) x).far (p := ⟨g, 1, none⟩) (by simp) y).set_ 0 z).set_ 1 u⟩
theorem get_ext {w w1 : World} {x y z u : Value} (h : Ext w w1) : Ext w ((((w1.setCell ⟨w.heap.size, 0, none⟩ x).setCell ⟨w.heap.size, 1, none⟩ y).setCell ⟨w.heap.size + 1, 0, none⟩ z).setCell ⟨w.heap.size + 1, 1, none⟩ u) :=
  (((h.setCell (Nat.le_refl _) _).setCell (Nat.le_refl _) _).setCell (Nat.le_succ _) _).setCell (Nat.le_succ _) _
theorem own_get {w : World} {g base : Nat} {T U e : TypeId} {size n : Nat} {v : Value} {xs : List Value} {A B : Array Value} {x y z u : Value} (h : w.ownsRow base e size v n xs) (hA : Blk w g T A) (hB : Blk w (g + 1) U B) (h1 : e ≠ T) (h2 : e ≠ U) :
    ((((w.setCell ⟨g, 0, none⟩ x).setCell ⟨g, 1, none⟩ y).setCell ⟨g + 1, 0, none⟩ z).setCell ⟨g + 1, 1, none⟩ u).ownsRow base e size v n xs := by
  have n1 := own_ne h hA h1
  have n2 := own_ne h hB h2
  exact own_far (own_far (own_far (own_far h n1 _) n1 _) n2 _) n2 _
theorem prog_nil (w : World) : ProgAt w (.agg #[.slice none 0 0, .slice none 0 0]) ⟨[], []⟩ :=
  ⟨_, _, rfl, ⟨by simp, none, 0, 0, 0, rfl, by simp, by decide, ⟨fun h => by simp at h, fun i j hi hj => by simp at hi⟩⟩, ⟨by simp, none, 0, 0, 0, rfl, by simp, by decide, ⟨fun h => by simp at h, fun i j hi hj => by simp at hi⟩⟩⟩
def GetPost (q : LProg × Int) (w : World) (e : Ending) (w' : World) : Prop := ∃ u, e = .returned (.tuple #[u, .agg #[.int .i64 q.2, .int .i64 0]]) ∧ ProgAt w' u q.1 ∧ Ext w w'
set_option maxHeartbeats 4000000 in
theorem wGet_c (r : List LReg) (ws : List Int) (v u : Value) (w : World) (hr : RegsAt w v r) (hu : U32sAt w u ws) (hr1 : r.length ≤ 1048576) (hr2 : ws.length ≤ 1048576) :
    Calls Try.prog 14 #[v, u] w (GetPost (getW r ws) w) := by
  obtain ⟨hb, oa, cap, b, o, rfl, hc1, hc2, hrow⟩ := hr
  obtain ⟨hb2, ob, capb, b2, o2, rfl, hd1, hd2, hrow2⟩ := hu
  have hlen2 := len_bd hd1 hd2
  have hix := index_u32 (cap := capb) hrow2.at_
  have Hrow := Lib.hid hrow
  have Hrow2 := Lib.hid hrow2
  obtain ⟨i0, hi0, hz0, hz1, hz2⟩ := info_parts infoReg
  obtain ⟨j0, hj0, hy0, hy1, hy2⟩ := info_parts infoIns
  clear hrow hrow2 hc1 hc2 hd1 hd2
  go_enter Try.func14, Try.ntmps14
  go_wp2_with (at_builtin; refine wpList_append_src _ rfl _ _ 22 rfl w.heap.size 90 i0 _ 2 16 Try.underlying22 hi0 hz0 hz1 hz2 rfl (by decide) _ 0 [] rfl ?c0 oa r.length cap (r.flatMap regCells) rfl ?c1 ?c3 ?c4 ?c5 ?_)
  case c0 =>
    have h := World.ownsRow_lit (base := w.heap.size) (e := 90) (size := 2) ((w.alloc (.cells #[.slice none 0 0, .slice none 0 0] 26)).alloc (.cells #[.int .i64 0, .int .i64 0] 29)) #[] 0 (by simp; omega) (by decide) rfl
    simpa [Act.eval] using h
  case c1 => exact src_regs ((((Hrow.out.ext ((Ext.refl w).alloc _)).ext ((Ext.refl _).alloc _))).ext ((Ext.refl _).alloc _))
  case c3 => unfold maxLen; omega
  case c4 => omega
  case c5 => simp; omega
  intro vr w1 hown1 hgrow1 hat
  clear hat
  obtain ⟨or, cr, rfl⟩ := own_slice hown1
  have Hr : Hid (w1.ownsRow w.heap.size 90 2 (.slice or r.length cr) r.length (r.flatMap regCells)) := Lib.hid (by simpa using hown1)
  have X1 : Hid (Ext w w1) := Lib.hid ((((Ext.refl w).alloc _).alloc _).alloc _ |>.grown hgrow1 (by intro k hk; simp [Act.eval, Value.ownBlock] at hk; omega))
  have bA : Blk w1 w.heap.size 26 #[.slice none 0 0, .slice none 0 0] := (((Blk.new w _ _).alloc _).alloc _).grown hgrow1 (by simp [Act.eval, Value.ownBlock]; omega)
  have bB : Blk w1 (w.heap.size + 1) 29 #[.int .i64 0, .int .i64 0] := by
    have h := (Blk.new (w.alloc (.cells #[.slice none 0 0, .slice none 0 0] 26)) 29 #[.int .i64 0, .int .i64 0])
    simp only [World.size_alloc] at h
    exact (h.alloc _).grown hgrow1 (by simp [Act.eval, Value.ownBlock])
  clear hown1 hgrow1
  go_wp2_with fail
  obtain ⟨W, g, hg, hW, hx, bP⟩ := block1 w1 #[.slice or r.length cr, .slice none 0 0] 26
  rw [hW, hg]
  have hgs : w.heap.size ≤ g := by have := X1.out.size; omega
  have X := Lib.hid hx
  have hgl : w1.heap.size = g := hg
  have HG := Lib.hid hgl
  clear hW hg hx hgl
  go_loopw [17] (fun i wr => ∃ (j : Nat) (vc : Value), j ≤ ws.length ∧ i = .int .i64 j ∧ Blk wr g 26 #[.slice or r.length cr, vc] ∧ wr.ownsRow (g + 1) 65 5 vc j (((ws.take j).map insW).flatMap insCells) ∧ Ext w1 wr) (fun i _ => ws.length - (intOf i).toNat)
  case atStart => exact ⟨0, _, by omega, rfl, bP, World.ownsRow_nil _ _ _ _, X.out⟩
  case round =>
    obtain ⟨j, vc, hj, rfl, bP, hown, hE⟩ := hrel
    obtain ⟨oc, cc, rfl⟩ := own_slice hown
    have XE := Lib.hid hE
    have Hown := Lib.hid hown
    clear hE hown
    by_cases hlt : j < ws.length
    · have e0 := ((Hrow2.out.ext X1.out).ext XE.out).one j hlt
      obtain ⟨hx0, hx1⟩ := hb2 _ (getD_mem hlt)
      have Htk : Hid (ws.take (j + 1) = ws.take j ++ [ws.getD j default]) := Lib.hid (by rw [List.take_succ_eq_append_getElem hlt]; simp [hlt])
      generalize ws.getD j default = x at *
      go_wp2_with fail
      (with_reducible refine (field26_c x hx0 hx1 wr).mono ?_)
      rintro e w2 ⟨rfl, h1⟩
      have bP := bP.ext h1
      have XE := Lib.hid (XE.out.trans h1)
      have Hown := Lib.hid (own_ext Hown.out h1)
      clear h1
      go_wp2_with fail
      (with_reducible refine (field22_c x hx0 hx1 w2).mono ?_)
      rintro e w3 ⟨rfl, h1⟩
      have bP := bP.ext h1
      have XE := Lib.hid (XE.out.trans h1)
      have Hown := Lib.hid (own_ext Hown.out h1)
      clear h1
      go_wp2_with fail
      (with_reducible refine (field18_c x hx0 hx1 w3).mono ?_)
      rintro e w4 ⟨rfl, h1⟩
      have bP := bP.ext h1
      have XE := Lib.hid (XE.out.trans h1)
      have Hown := Lib.hid (own_ext Hown.out h1)
      clear h1
      go_wp2_with fail
      (with_reducible refine (field14_c x hx0 hx1 w4).mono ?_)
      rintro e w5 ⟨rfl, h1⟩
      have bP := bP.ext h1
      have XE := Lib.hid (XE.out.trans h1)
      have Hown := Lib.hid (own_ext Hown.out h1)
      clear h1
      have hgl := bP.lt
      have hgw : g + 1 ≤ w5.heap.size := hgl
      have c1 : w5.cell? ⟨g, 1, none⟩ = some (.slice oc j cc) := by rw [bP.cell]; rfl
      go_wp2_with (at_builtin; refine wpList_append_src _ rfl _ _ 24 rfl (g + 1) 65 j0 _ 5 40 Try.underlying24 hj0 hy0 hy1 hy2 rfl (by decide) _ _ _ rfl (own_alloc (own_alloc Hown.out)) (some ⟨w5.heap.size + 1, 0, none⟩) 1 1 (insCells (insW x)) rfl ?b1 ?b3 ?b4 ?b5 ?_)
      case b1 =>
        have hb := Blk.new (w5.alloc (.cells #[.int .i64 (x / 16384 / 16 / 16 / 16), .int .i64 (x / 16384 / 16 / 16 % 16), .int .i64 (x / 16384 / 16 % 16), .int .i64 (x / 16384 % 16), .int .i64 (wrap64 (wrap32 (x * 262144 % 4294967296) / 262144))] 65)) 65 #[.int .i64 (x / 16384 / 16 / 16 / 16), .int .i64 (x / 16384 / 16 / 16 % 16), .int .i64 (x / 16384 / 16 % 16), .int .i64 (x / 16384 % 16), .int .i64 (wrap64 (wrap32 (x * 262144 % 4294967296) / 262144))]
        simp only [World.size_alloc] at hb
        have h := src_new (size := 5) hb rfl (by simp [Value.oneCell'])
        rw [← ins_cells x hx0 hx1]
        exact h
      case b3 => unfold maxLen; omega
      case b4 => omega
      case b5 => simp; omega
      intro vc w6 hown hgrow hat
      clear hat
      obtain ⟨oc', cc', rfl⟩ := own_slice hown
      have XE := Lib.hid (((XE.out.alloc _).alloc _).grown hgrow (fun k hk => by have := own_ge Hown.out k hk; have := HG.out; omega))
      have bP := ((bP.alloc _).alloc _).grown hgrow (own_ne Hown.out (bP) (by decide))
      have p1 : w6.cell? ⟨g, 1, none⟩ = some (.slice oc j cc) ∧ w6.frozen? ⟨g, 1, none⟩ = false := ⟨by rw [bP.cell]; rfl, bP.frozen 1⟩
      have Hown : Hid (w6.ownsRow (g + 1) 65 5 (.slice oc' (j + 1) cc') (j + 1) (((ws.take (j + 1)).map insW).flatMap insCells)) := Lib.hid (by
        rw [Htk.out]
        simpa [List.map_take] using hown)
      clear hown hgrow c1 e0
      go_wp2
      go_roundw
      case rel => exact ⟨j + 1, _, by omega, by go_num, bP.set_ 1 _, ownsRow_setCell_below Hown.out (a := ⟨g, 1, none⟩) (by simp) _, XE.out.setCell (by have := HG.out; simp; omega) _⟩
      case measure => first | (simp [intOf]; done) | (simp [intOf]; omega)
    · have hje : j = ws.length := by omega
      subst hje
      have c0 : wr.cell? ⟨g, 0, none⟩ = some (.slice or r.length cr) := by rw [bP.cell]; rfl
      have c1 : wr.cell? ⟨g, 1, none⟩ = some (.slice oc ws.length cc) := by rw [bP.cell]; rfl
      have Hrr : Hid (wr.ownsRow w.heap.size 90 2 (.slice or r.length cr) r.length (r.flatMap regCells)) := Lib.hid (own_ext Hr.out XE.out)
      have Hcc : Hid (wr.ownsRow (g + 1) 65 5 (.slice oc ws.length cc) (ws.map insW).length ((ws.map insW).flatMap insCells)) := Lib.hid (by
        have h := Hown.out
        rw [List.take_length] at h
        simpa using h)
      have hfit : ∀ i ∈ ws.map insW, i.fits := by
        intro i hi
        simp only [List.mem_map] at hi
        obtain ⟨x, hx, rfl⟩ := hi
        exact ins_fits64 x (hb2 x hx).1 (hb2 x hx).2
      have HP : Hid (ProgAt wr (.agg #[.slice or r.length cr, .slice oc ws.length cc]) (progW r ws)) := Lib.hid ⟨_, _, rfl, regs_own Hrr.out hb, code_own Hcc.out hfit⟩
      have bA := bA.ext XE.out
      have bB := bB.ext XE.out
      have XX := Lib.hid (X1.out.trans XE.out)
      have Hfit := Lib.hid hfit
      clear hfit Hown XE X Hr
      go_wp2_with fail
      have C := hard_c (progW r ws) _ wr HP.out
      (with_reducible refine C.mono ?_)
      clear C HP
      rintro e w2 ⟨rfl, h1⟩
      have c0 := h1.kept c0
      have c1 := h1.kept c1
      have Hrr := Lib.hid (own_ext Hrr.out h1)
      have Hcc := Lib.hid (own_ext Hcc.out h1)
      have bA := bA.ext h1
      have bB := bB.ext h1
      have XX := Lib.hid (XX.out.trans h1)
      have q0 : w2.cell? ⟨w.heap.size, 0, none⟩ = some (.slice none 0 0) ∧ w2.frozen? ⟨w.heap.size, 0, none⟩ = false := ⟨by rw [bA.cell]; rfl, bA.frozen 0⟩
      have q1 : w2.cell? ⟨w.heap.size, 1, none⟩ = some (.slice none 0 0) ∧ w2.frozen? ⟨w.heap.size, 1, none⟩ = false := ⟨by rw [bA.cell]; rfl, bA.frozen 1⟩
      have p0 : w2.cell? ⟨w.heap.size + 1, 0, none⟩ = some (.int .i64 0) ∧ w2.frozen? ⟨w.heap.size + 1, 0, none⟩ = false := ⟨by rw [bB.cell]; rfl, bB.frozen 0⟩
      have p1 : w2.cell? ⟨w.heap.size + 1, 1, none⟩ = some (.int .i64 0) ∧ w2.frozen? ⟨w.heap.size + 1, 1, none⟩ = false := ⟨by rw [bB.cell]; rfl, bB.frozen 1⟩
      clear h1
      cases hh : hardOk (progW r ws)
      · have Hq : Hid (getW r ws = (⟨[], []⟩, 2)) := Lib.hid (by unfold getW; rw [hh]; rfl)
        clear hh
        go_wp2
        exact bodyPost_ret (results_cc (get_put1 bA bB).1 (get_put1 bA bB).2 rfl _ rfl rfl Try.underlying26 rfl (by kernel_rfl) Try.underlying29 rfl (by kernel_rfl)) rfl
          ⟨_, by rw [Hq.out], by rw [Hq.out]; exact prog_nil _, get_ext XX.out⟩
      · have Hq : Hid (getW r ws = (progW r ws, 0)) := Lib.hid (by unfold getW; rw [hh]; rfl)
        clear hh
        go_wp2
        exact bodyPost_ret (results_cc (get_put1 bA bB).1 (get_put1 bA bB).2 rfl _ rfl rfl Try.underlying26 rfl (by kernel_rfl) Try.underlying29 rfl (by kernel_rfl)) rfl
          ⟨_, by rw [Hq.out], by
            rw [Hq.out]
            refine ⟨_, _, rfl, regs_own (own_get Hrr.out bA bB (by decide) (by decide)) hb, code_own (own_get Hcc.out bA bB (by decide) (by decide)) Hfit.out⟩, get_ext XX.out⟩
end Go.Proofs.Ytoaapneihcfieab
