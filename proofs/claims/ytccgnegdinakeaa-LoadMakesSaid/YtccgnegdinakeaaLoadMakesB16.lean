/- Laid together from: Word1, Ref3e, Law1, FormR, FormR2, FormR3. -/
import Derived.Test.YtccgnegdinakeaaLoadMakesB15
import Derived.Test.YtccgnegdinakeaaLoadMakesB8
import Derived.Test.YtccgnegdinakeaaLoadMakesB7
import Derived.Test.YtccgnegdinakeaaLoadMakesB14
import Derived.Test.YtccgnegdinakeaaLoadMakesB9
import Derived.Test.YtccgnegdinakeaaLoadMakesB13

/- Walks of package word: Fits, Put. -/
namespace Go.Proofs.Ytccgnegdinakeaa
open Go.ChangeShapes Go.WideShapes Go.ChangeAt Go.RowKit
set_option linter.unusedVariables false
set_option linter.unusedSimpArgs false

theorem results_tc {P : Program} {w : World} {g : Nat} {T t p ty : Nat} {cs : Array Value} {fn : Func} {d : TypeDesc} {v : Value} (h : Blk w g T cs) (hr : fn.results = #[.tmp t, .cell p ty]) (tmps : Array Value) (ht : tmps.getD t undef = v) (hp : tmps.getD p undef = .pointer (some ⟨g, 0, none⟩))
    (hu : P.underlying ty = some d) (hd : d.isRow = true) (hi : (P.info? ty).map (·.size) = some cs.size) : (results fn tmps).run P w = .ok (.tuple #[v, .agg cs]) w := by
  have hp' : tmps[p]?.getD undef = .pointer (some ⟨g, 0, none⟩) := by simpa using hp
  have ht' : tmps[t]?.getD undef = v := by simpa using ht
  have hc : w.rangeAt g 0 cs.toList := h.range 0 cs.toList (fun j v hv => by simpa using hv)
  have := run_loadVar_mid w g 0 ty cs.toList d hc hu hd (by simpa using hi)
  simp only [Array.toArray_toList] at this
  simp [results, hr, hp', ht', asAddr, this]
theorem wFits_c (n : Int) (w : World) : Calls Try.prog 75 #[.int .i64 n] w fun e w' => e = .returned (.bool (fitsN n)) ∧ w = w' := by
  by_cases h0 : -8192 ≤ n
  · by_cases h1 : n ≤ 8191
    · have hg : Hid (fitsN n = true) := Lib.hid (by simp [fitsN, h0, h1])
      go_enter Try.func75, Try.ntmps75
      go_wp2
      go_ret
      exact ⟨ret_b hg.out.symm, rfl⟩
    · have hg : Hid (fitsN n = false) := Lib.hid (by simp [fitsN, h1])
      have hd : decide (n ≤ 8191) = false := by simpa using h1
      go_enter Try.func75, Try.ntmps75
      go_wp2
      go_ret
      exact ⟨ret_b hg.out.symm, rfl⟩
  · have hg : Hid (fitsN n = false) := Lib.hid (by simp [fitsN, h0])
    have hd : decide (-8192 ≤ n) = false := by simpa using h0
    go_enter Try.func75, Try.ntmps75
    go_wp2
    go_ret
    exact ⟨ret_b hg.out.symm, rfl⟩
theorem infoU32 : (Try.prog.info? 122).map (fun i => (i.zero, i.size, i.bytes)) = some (some (.int .u32 0), 1, 4) := by kernel_rfl
theorem insOk_fits {p : LProg} (h : hardOk p = true) {i : LIns} (hi : i ∈ p.code) : (0 ≤ i.op ∧ i.op < 64) ∧ (0 ≤ i.a ∧ i.a < 16) ∧ (0 ≤ i.b ∧ i.b < 16) ∧ 0 ≤ i.c ∧ i.c < 16 := by
  obtain ⟨p1, p2, p3, p4⟩ := hard_parts h
  obtain ⟨a, b, c, d⟩ := ins_small (regsOk_len p1) (p4 i hi)
  exact ⟨a, b, c, d⟩
theorem wrap_u32' (z : Int) (h0 : 0 ≤ z) (h1 : z < 4294967296) : IntKind.u32.wrap z = z := by
  have e : IntKind.u32.wrap z = z % 4294967296 := rfl
  rw [e]; omega
theorem or_u32 (x y : Int) (k a : Nat) (hx : x = ((2 ^ k * a : Nat) : Int)) (hy : 0 ≤ y) (hk : y.toNat < 2 ^ k) (hs : 2 ^ k * a + y.toNat < 4294967296) : bits .or .u32 x y = x + y := by
  have e : bits .or .u32 x y = IntKind.u32.wrap ((BitVec.ofInt 32 x ||| BitVec.ofInt 32 y).toNat : Int) := rfl
  rw [e, BitVec.toNat_or, BitVec.toNat_ofInt, BitVec.toNat_ofInt]
  generalize hz : 2 ^ k * a = z at *
  have h1 : (x % ((2 ^ 32 : Nat) : Int)).toNat = z := by rw [hx]; omega
  have h2 : (y % ((2 ^ 32 : Nat) : Int)).toNat = y.toNat := by omega
  rw [h1, h2, ← hz, ← Nat.two_pow_add_eq_or_of_lt hk, hz, wrap_u32' _ (by omega) (by omega), hx]
  omega
theorem and_u32 (n : Int) : bits .and .u32 (n % 4294967296) 16383 = n % 16384 := by
  have e : bits .and .u32 (n % 4294967296) 16383 = IntKind.u32.wrap ((BitVec.ofInt 32 (n % 4294967296) &&& BitVec.ofInt 32 16383).toNat : Int) := rfl
  have h63 : (BitVec.ofInt 32 16383).toNat = 2 ^ 14 - 1 := by decide
  rw [e, BitVec.toNat_and, h63, Nat.and_two_pow_sub_one_eq_mod, BitVec.toNat_ofInt, wrap_u32' _ (by omega) (by omega)]
  omega
theorem word_u32 {i : LIns} (hi : (0 ≤ i.op ∧ i.op < 64) ∧ (0 ≤ i.a ∧ i.a < 16) ∧ (0 ≤ i.b ∧ i.b < 16) ∧ 0 ≤ i.c ∧ i.c < 16) (hf : fitsN i.n = true) :
    bits BinOp.or IntKind.u32 (bits BinOp.or IntKind.u32 (bits BinOp.or IntKind.u32 (bits BinOp.or IntKind.u32 (i.op * 67108864) (i.a * 4194304)) (i.b * 262144)) (i.c * 16384)) (bits BinOp.and IntKind.u32 (i.n % 4294967296) 16383) = wordI i := by
  obtain ⟨⟨h1, h2⟩, ⟨h3, h4⟩, ⟨h5, h6⟩, h7, h8⟩ := hi
  simp only [fitsN, Bool.and_eq_true, decide_eq_true_eq] at hf
  have e1 := or_u32 (i.op * 67108864) (i.a * 4194304) 26 i.op.toNat (by omega) (by omega) (by omega) (by omega)
  have e2 := or_u32 (i.op * 67108864 + i.a * 4194304) (i.b * 262144) 22 (i.op * 16 + i.a).toNat (by omega) (by omega) (by omega) (by omega)
  have e3 := or_u32 (i.op * 67108864 + i.a * 4194304 + i.b * 262144) (i.c * 16384) 18 ((i.op * 16 + i.a) * 16 + i.b).toNat (by omega) (by omega) (by omega) (by omega)
  have e4 := or_u32 (i.op * 67108864 + i.a * 4194304 + i.b * 262144 + i.c * 16384) (i.n % 16384) 14 (((i.op * 16 + i.a) * 16 + i.b) * 16 + i.c).toNat (by omega) (by omega) (by omega) (by omega)
  rw [and_u32, e1, e2, e3, e4]
  unfold wordI
  split <;> omega
theorem own_ge {w : World} {base : Nat} {e : TypeId} {c n : Nat} {v : Value} {xs : List Value} (h : w.ownsRow base e c v n xs) : ∀ k, v.ownBlock = some k → base ≤ k := by
  intro k hk
  obtain ⟨-, ⟨rfl, -⟩ | ⟨g, cap, cur, rfl, hb, -⟩⟩ := h
  · cases hk
  · simp [Value.ownBlock] at hk; omega
theorem u32s_nil (w : World) : U32sAt w (.slice none 0 0) [] := ⟨by simp, none, 0, 0, 0, rfl, by simp, by decide, ⟨fun h => by simp at h, fun i j hi hj => by simp at hi⟩⟩
/-- a fault's two cells, put just now -/
theorem fault_put {w : World} {g : Nat} {T : TypeId} {a b x y : Value} (h : Blk w g T #[a, b]) : Blk ((w.setCell ⟨g, 0, none⟩ x).setCell ⟨g, 1, none⟩ y) g T #[x, y] := (h.set_ 0 x).set_ 1 y
theorem ext_fault {w w1 : World} {g : Nat} {x y : Value} (h : Ext w w1) (hg : w.heap.size ≤ g) : Ext w ((w1.setCell ⟨g, 0, none⟩ x).setCell ⟨g, 1, none⟩ y) := (h.setCell hg _).setCell hg _
/-- a slice's cells, where other blocks are written -/
def Put2' (q : List Int × Int × Nat) (w : World) (e : Ending) (w' : World) : Prop := ∃ u, e = .returned (.tuple #[u, .agg #[.int .i64 q.2.1, .int .i64 q.2.2]]) ∧ U32sAt w' u q.1 ∧ Ext w w'
theorem ret_put {l : List Int} {code at_ : Int} {q : List Int × Int × Nat} {w w' : World} {u : Value} (hq : q = (l, code, at_.toNat)) (h0 : 0 ≤ at_) (hu : U32sAt w' u l) (hx : Ext w w') :
    Put2' q w (.returned (.tuple #[u, .agg #[.int .i64 code, .int .i64 at_]])) w' := by
  subst hq
  exact ⟨u, by simp only; rw [Int.toNat_of_nonneg h0], hu, hx⟩
theorem missW_take : ∀ (l : List LIns) (k n : Nat), k < l.length → (∀ i ∈ l.take k, fitsW i = true) → fitsW (l.getD k default) = false → missW l n = some (n + k)
  | [], k, n, h, _, _ => by simp at h
  | i :: l, 0, n, _, _, h => by
    simp only [List.getD_cons_zero] at h
    rw [missW, if_neg (by simp [h])]; rfl
  | i :: l, k + 1, n, h, ha, hk => by
    simp only [List.getD_cons_succ] at hk
    rw [missW, if_pos (ha i (by simp)), missW_take l k (n + 1) (by simpa using h) (fun j hj => ha j (by simp [hj])) hk]
    congr 1; omega
set_option maxHeartbeats 4000000 in
theorem wPut_c (p : LProg) (v : Value) (w : World) (hp : ProgAt w v p) :
    Calls Try.prog 48 #[v] w (Put2' (putW p) w) := by
  have hp' := hp
  obtain ⟨v1, v2, rfl, ⟨hb, oa, cap, b, o, rfl, hc1, hc2, hrow⟩, ⟨hf, ob, capb, b2, o2, rfl, hd1, hd2, hrow2⟩⟩ := hp
  have HP := Lib.hid hp'
  have hlen2 := len_bd hd1 hd2
  have hix := index_code (cap := capb) hrow2.at_
  have Hrow2 := Lib.hid hrow2
  clear hrow hrow2 hc1 hc2 hd1 hd2 hp' hb
  go_enter Try.func48, Try.ntmps48
  go_wp2_with fail
  obtain ⟨W, g, hg, hW, hx, bA, bB⟩ := blocks2 w #[.slice oa p.regs.length cap, .slice ob p.code.length capb] #[.int .i64 0, .int .i64 0] 25 37
  rw [hW, hg]
  have X := Lib.hid hx
  have hgs : w.heap.size ≤ g := by omega
  clear hW hg hx
  have C := hard_c p _ W (HP.out.ext X.out)
  cases hh : hardOk p
  · have Hp : Hid (putW p = ([], 2, 0)) := Lib.hid (by unfold putW; rw [hh]; rfl)
    rw [hh] at C
    clear hh
    (with_reducible refine C.mono ?_)
    rintro e w1 ⟨rfl, h1⟩
    have bB := bB.ext h1
    have X := Lib.hid (X.out.trans h1)
    have p0 : w1.cell? ⟨g + 1, 0, none⟩ = some (.int .i64 0) ∧ w1.frozen? ⟨g + 1, 0, none⟩ = false := ⟨by rw [bB.cell]; rfl, bB.frozen 0⟩
    have p1 : w1.cell? ⟨g + 1, 1, none⟩ = some (.int .i64 0) ∧ w1.frozen? ⟨g + 1, 1, none⟩ = false := ⟨by rw [bB.cell]; rfl, bB.frozen 1⟩
    clear h1 C
    go_wp2
    exact bodyPost_ret (results_tc (fault_put bB) rfl _ rfl rfl Try.underlying37 rfl (by kernel_rfl)) rfl (ret_put Hp.out (by omega) (u32s_nil _) (ext_fault X.out (by omega)))
  have Hh := Lib.hid hh
  rw [hh] at C
  clear hh
  (with_reducible refine C.mono ?_)
  rintro e w1 ⟨rfl, h1⟩
  have bA := bA.ext h1
  have bB := bB.ext h1
  have X := Lib.hid (X.out.trans h1)
  have c1 : w1.cell? ⟨g, 1, none⟩ = some (.slice ob p.code.length capb) := by rw [bA.cell]; rfl
  clear h1 C
  have hg1 : g + 1 < w1.heap.size := bB.lt
  obtain ⟨i0, hi0, hz0, hz1, hz2⟩ := info_parts infoU32
  have hcl : p.code.length ≤ 8000 := (hard_parts Hh.out).2.2.1
  go_wp2_with fail
  go_loopw [4, 14] (fun l i wr => ∃ j : Nat, j ≤ p.code.length ∧ i = .int .i64 j ∧ wr.ownsRow w1.heap.size 122 1 l j (((p.code.take j).map wordI).map (Value.int .u32)) ∧ Below w1.heap.size w1 wr ∧ (∀ i ∈ p.code.take j, fitsW i = true)) (fun _ i _ => p.code.length - (intOf i).toNat)
  case atStart => exact ⟨0, by omega, rfl, World.ownsRow_nil _ _ _ _, Below.refl _ _, by simp⟩
  case round =>
    obtain ⟨j, hj, rfl, hown, hE, hall⟩ := hrel
    have hx : Ext w1 wr := hE
    have bB := bB.ext hx
    have X := Lib.hid (X.out.trans hx)
    have HE := Lib.hid hE
    have Hall := Lib.hid hall
    have Hown := Lib.hid hown
    clear hE hall hx hown
    by_cases hlt : j < p.code.length
    · obtain ⟨e0, e1, e2, e3, e4⟩ := (Hrow2.out.ext X.out).ins j hlt
      have hfi := hf _ (getD_mem hlt)
      have Hmiss := Lib.hid (missW_take p.code j 0 hlt Hall.out)
      have Hin : Hid (p.code.getD j default ∈ p.code) := Lib.hid (getD_mem hlt)
      have Htk : Hid (p.code.take (j + 1) = p.code.take j ++ [p.code.getD j default]) := Lib.hid (by rw [List.take_succ_eq_append_getElem hlt]; simp [hlt])
      generalize p.code.getD j default = i at *
      go_wp2_with fail
      refine (wFits_c i.n _).mono ?_
      rintro e w2 ⟨rfl, rfl⟩
      cases hfit : fitsN i.n
      · have hgl := bB.lt
        have p0 : wr.cell? ⟨g + 1, 0, none⟩ = some (.int .i64 0) ∧ wr.frozen? ⟨g + 1, 0, none⟩ = false := ⟨by rw [bB.cell]; rfl, bB.frozen 0⟩
        have p1 : wr.cell? ⟨g + 1, 1, none⟩ = some (.int .i64 0) ∧ wr.frozen? ⟨g + 1, 1, none⟩ = false := ⟨by rw [bB.cell]; rfl, bB.frozen 1⟩
        have Hf := Lib.hid hfit
        clear hfit
        have Hq : Hid (putW p = ([], 3, ((j : Int)).toNat)) := Lib.hid (by
          unfold putW
          rw [Hh.out, Hmiss.out Hf.out]
          simp)
        go_wp2
        exact bodyPost_ret (results_tc ((fault_put bB).alloc _) rfl _ rfl rfl Try.underlying37 rfl (by kernel_rfl)) rfl (ret_put Hq.out (by omega) (u32s_nil _) ((ext_fault X.out (by omega)).alloc _))
      · have Hf := Lib.hid hfit
        clear hfit
        have hi := insOk_fits Hh.out Hin.out
        have hb0 := HE.out.size
        go_wp2_with (at_builtin; refine wpList_append_own _ rfl _ _ 47 rfl w1.heap.size 122 i0 (.int .u32 0) 1 4 Try.underlying47 hi0 hz0 hz1 hz2 rfl (by decide) _ _ _ rfl ((Hown.out.alloc _).alloc _) ⟨wr.heap.size + 1, 0, none⟩ 1 1 [.int .u32 (bits BinOp.or IntKind.u32 (bits BinOp.or IntKind.u32 (bits BinOp.or IntKind.u32 (bits BinOp.or IntKind.u32 (i.op * 67108864) (i.a * 4194304)) (i.b * 262144)) (i.c * 16384)) (bits BinOp.and IntKind.u32 (i.n % 4294967296) 16383))] rfl rfl ?c1 ?c2 ?c3 ?c4 ?c5 ?_)
        case c1 =>
          intro j u hj
          match j, hj with
          | 0, hj => simp at hj; subst hj; simp [Addr.add]
        case c2 => intro u hu; simp at hu; subst hu; rfl
        case c3 => unfold maxLen; omega
        case c4 => omega
        case c5 => simp; omega
        intro v' w3 hown' hgrow _
        have hv := word_u32 hi Hf.out
        rw [hv] at hown'
        have Hw3 : Hid (w3.ownsRow w1.heap.size 122 1 v' (j + 1) (((p.code.take (j + 1)).map wordI).map (Value.int .u32))) := Lib.hid (by
          rw [Htk.out]
          simpa [List.map_take] using hown')
        have Hb3 := Lib.hid (Below.grown ((HE.out.alloc hb0 _).alloc (by simp; omega) _) hgrow (by simp; omega) (own_ge Hown.out))
        have Hall3 : Hid (∀ i ∈ p.code.take (j + 1), fitsW i = true) := Lib.hid (by
          rw [Htk.out]
          intro x hx
          simp only [List.mem_append, List.mem_singleton] at hx
          rcases hx with hx | rfl
          · exact Hall.out x hx
          · exact Hf.out)
        clear hown' hgrow hv
        go_wp2
        go_roundw
        case rel => exact ⟨j + 1, by omega, by go_num, Hw3.out, Hb3.out, Hall3.out⟩
        case measure => first | (simp [intOf]; done) | (simp [intOf]; omega)
    · have hje : j = p.code.length := by omega
      subst hje
      have p0 : wr.cell? ⟨g + 1, 0, none⟩ = some (.int .i64 0) ∧ wr.frozen? ⟨g + 1, 0, none⟩ = false := ⟨by rw [bB.cell]; rfl, bB.frozen 0⟩
      have p1 : wr.cell? ⟨g + 1, 1, none⟩ = some (.int .i64 0) ∧ wr.frozen? ⟨g + 1, 1, none⟩ = false := ⟨by rw [bB.cell]; rfl, bB.frozen 1⟩
      have Hq : Hid (putW p = (p.code.map wordI, 0, ((0 : Int)).toNat)) := Lib.hid (by
        have h := Hall.out
        rw [List.take_length] at h
        unfold putW
        rw [Hh.out, missW_none 0 h]
        rfl)
      have Hu : Hid (U32sAt ((wr.setCell ⟨g + 1, 0, none⟩ (.int .i64 0)).setCell ⟨g + 1, 1, none⟩ (.int .i64 0)) u4 (p.code.map wordI)) := Lib.hid (by
        have h := ownsRow_setCell_below (ownsRow_setCell_below Hown.out (a := ⟨g + 1, 0, none⟩) hg1 (.int .i64 0)) (a := ⟨g + 1, 1, none⟩) hg1 (.int .i64 0)
        rw [List.take_length] at h
        have hl : (p.code.map wordI).length = p.code.length := by simp
        refine u32s_own (base := w1.heap.size) (e := 122) (by rw [hl]; exact h) ?_
        intro x hx
        simp only [List.mem_map] at hx
        obtain ⟨i, hi, rfl⟩ := hx
        have hfit := Hall.out
        rw [List.take_length] at hfit
        obtain ⟨p1, p2, p3, p4⟩ := hard_parts Hh.out
        exact word_bd (ins_small (regsOk_len p1) (p4 i hi)) (hfit i hi))
      go_wp2
      exact bodyPost_ret (results_tc (v := u4) (fault_put bB) rfl _ rfl rfl Try.underlying37 rfl (by kernel_rfl)) rfl (ret_put Hq.out (by omega) Hu.out (ext_fault X.out (by omega)))
end Go.Proofs.Ytccgnegdinakeaa
/- Walks of the reference's Seen, Memories and Same (chapter 3), of what is the same. -/
namespace Go.Proofs.Ytccgnegdinakeaa
open Go.ChangeShapes Go.WideShapes Go.ChangeAt Go.RowKit
set_option linter.unusedVariables false
set_option linter.unusedSimpArgs false

end Go.Proofs.Ytccgnegdinakeaa
/- Walks of what the laws of hardened programs share: regions, same. -/
namespace Go.Proofs.Ytccgnegdinakeaa
open Go.ChangeShapes Go.WideShapes Go.ChangeAt Go.RowKit
set_option linter.unusedVariables false
set_option linter.unusedSimpArgs false

theorem prog_forms {w : World} {v : Value} {p : LProg} (h : ProgAt w v p) : ∃ a b c d, v = .agg #[.slice a p.regs.length b, .slice c p.code.length d] ∧ RegsAt w (.slice a p.regs.length b) p.regs ∧ CodeAt w (.slice c p.code.length d) p.code := by
  obtain ⟨v1, v2, rfl, h1, h2⟩ := h
  have g1 := h1
  have g2 := h2
  obtain ⟨-, oa, cap, b, o, rfl, -⟩ := h1
  obtain ⟨-, ob, capb, b2, o2, rfl, -⟩ := h2
  exact ⟨_, _, _, _, rfl, g1, g2⟩
end Go.Proofs.Ytccgnegdinakeaa
/- Walks of the reference's shape and ins (chapter 2). -/
namespace Go.Proofs.Ytccgnegdinakeaa
open Go.ChangeShapes Go.WideShapes Go.ChangeAt Go.RowKit
set_option linter.unusedVariables false
set_option linter.unusedSimpArgs false

theorem shape_1 (w : World) : Calls Try.prog 93 #[.int .i64 1] w fun e w' => e = .returned (.tuple #[.slice (some ⟨w.heap.size, 0, none⟩) 3 3, .bool true, .bool true]) ∧ w' = w.alloc (.cells #[.int .i64 1, .int .i64 0, .int .i64 0] 3) := by
  go_enter Try.func93, Try.ntmps93
  go_wp2
  go_ret3
  exact ⟨rfl, rfl⟩
theorem shape_2 (w : World) : Calls Try.prog 93 #[.int .i64 2] w fun e w' => e = .returned (.tuple #[.slice (some ⟨w.heap.size, 0, none⟩) 3 3, .bool false, .bool true]) ∧ w' = w.alloc (.cells #[.int .i64 1, .int .i64 1, .int .i64 0] 3) := by
  go_enter Try.func93, Try.ntmps93
  go_wp2
  go_ret3
  exact ⟨rfl, rfl⟩
theorem shape_3 (w : World) : Calls Try.prog 93 #[.int .i64 3] w fun e w' => e = .returned (.tuple #[.slice (some ⟨w.heap.size, 0, none⟩) 3 3, .bool true, .bool true]) ∧ w' = w.alloc (.cells #[.int .i64 1, .int .i64 1, .int .i64 2] 3) := by
  go_enter Try.func93, Try.ntmps93
  go_wp2
  go_ret3
  exact ⟨rfl, rfl⟩
theorem shape_4 (w : World) : Calls Try.prog 93 #[.int .i64 4] w fun e w' => e = .returned (.tuple #[.slice (some ⟨w.heap.size, 0, none⟩) 3 3, .bool true, .bool true]) ∧ w' = w.alloc (.cells #[.int .i64 1, .int .i64 1, .int .i64 2] 3) := by
  go_enter Try.func93, Try.ntmps93
  go_wp2
  go_ret3
  exact ⟨rfl, rfl⟩
theorem shape_5 (w : World) : Calls Try.prog 93 #[.int .i64 5] w fun e w' => e = .returned (.tuple #[.slice (some ⟨w.heap.size, 0, none⟩) 3 3, .bool true, .bool true]) ∧ w' = w.alloc (.cells #[.int .i64 1, .int .i64 0, .int .i64 2] 3) := by
  go_enter Try.func93, Try.ntmps93
  go_wp2
  go_ret3
  exact ⟨rfl, rfl⟩
theorem shape_6 (w : World) : Calls Try.prog 93 #[.int .i64 6] w fun e w' => e = .returned (.tuple #[.slice (some ⟨w.heap.size, 0, none⟩) 3 3, .bool true, .bool true]) ∧ w' = w.alloc (.cells #[.int .i64 1, .int .i64 0, .int .i64 2] 3) := by
  go_enter Try.func93, Try.ntmps93
  go_wp2
  go_ret3
  exact ⟨rfl, rfl⟩
theorem shape_7 (w : World) : Calls Try.prog 93 #[.int .i64 7] w fun e w' => e = .returned (.tuple #[.slice (some ⟨w.heap.size, 0, none⟩) 3 3, .bool true, .bool true]) ∧ w' = w.alloc (.cells #[.int .i64 0, .int .i64 0, .int .i64 0] 3) := by
  go_enter Try.func93, Try.ntmps93
  go_wp2
  go_ret3
  exact ⟨rfl, rfl⟩
theorem shape_8 (w : World) : Calls Try.prog 93 #[.int .i64 8] w fun e w' => e = .returned (.tuple #[.slice (some ⟨w.heap.size, 0, none⟩) 3 3, .bool true, .bool true]) ∧ w' = w.alloc (.cells #[.int .i64 1, .int .i64 1, .int .i64 2] 3) := by
  go_enter Try.func93, Try.ntmps93
  go_wp2
  go_ret3
  exact ⟨rfl, rfl⟩
theorem shape_9 (w : World) : Calls Try.prog 93 #[.int .i64 9] w fun e w' => e = .returned (.tuple #[.slice (some ⟨w.heap.size, 0, none⟩) 3 3, .bool false, .bool true]) ∧ w' = w.alloc (.cells #[.int .i64 1, .int .i64 0, .int .i64 0] 3) := by
  go_enter Try.func93, Try.ntmps93
  go_wp2
  go_ret3
  exact ⟨rfl, rfl⟩
theorem shape_10 (w : World) : Calls Try.prog 93 #[.int .i64 10] w fun e w' => e = .returned (.tuple #[.slice (some ⟨w.heap.size, 0, none⟩) 3 3, .bool true, .bool true]) ∧ w' = w.alloc (.cells #[.int .i64 1, .int .i64 1, .int .i64 0] 3) := by
  go_enter Try.func93, Try.ntmps93
  go_wp2
  go_ret3
  exact ⟨rfl, rfl⟩
theorem shape_11 (w : World) : Calls Try.prog 93 #[.int .i64 11] w fun e w' => e = .returned (.tuple #[.slice (some ⟨w.heap.size, 0, none⟩) 3 3, .bool true, .bool true]) ∧ w' = w.alloc (.cells #[.int .i64 1, .int .i64 0, .int .i64 0] 3) := by
  go_enter Try.func93, Try.ntmps93
  go_wp2
  go_ret3
  exact ⟨rfl, rfl⟩
theorem shape_12 (w : World) : Calls Try.prog 93 #[.int .i64 12] w fun e w' => e = .returned (.tuple #[.slice (some ⟨w.heap.size, 0, none⟩) 3 3, .bool false, .bool true]) ∧ w' = w.alloc (.cells #[.int .i64 0, .int .i64 0, .int .i64 0] 3) := by
  go_enter Try.func93, Try.ntmps93
  go_wp2
  go_ret3
  exact ⟨rfl, rfl⟩
theorem shape_op (op : Int) (h0 : 20 < op) (h1 : op ≤ 30) (w : World) : Calls Try.prog 93 #[.int .i64 op] w fun e w' => e = .returned (.tuple #[.slice (some ⟨w.heap.size, 0, none⟩) 3 3, .bool false, .bool true]) ∧ w' = w.alloc (.cells #[.int .i64 1, .int .i64 1, .int .i64 1] 3) := by
  go_enter Try.func93, Try.ntmps93
  go_wp2
  go_ret3
  exact ⟨rfl, rfl⟩
theorem shape_none (op : Int) (h : op ≤ 20 ∨ 30 < op) (n1 : (op == 1) = false) (n2 : (op == 2) = false) (n3 : (op == 3) = false) (n4 : (op == 4) = false) (n5 : (op == 5) = false) (n6 : (op == 6) = false) (n7 : (op == 7) = false) (n8 : (op == 8) = false) (n9 : (op == 9) = false) (n10 : (op == 10) = false) (n11 : (op == 11) = false) (n12 : (op == 12) = false) (w : World) : Calls Try.prog 93 #[.int .i64 op] w fun e w' => e = .returned (.tuple #[.slice none 0 0, .bool false, .bool false]) ∧ w = w' := by
  rcases h with h | h
  · have hd : decide ((20 : Int) < op) = false := by simpa using h
    go_enter Try.func93, Try.ntmps93
    go_wp2
    go_ret3
    exact ⟨rfl, rfl⟩
  · have h0 : (20 : Int) < op := by omega
    have hd : decide (op ≤ (30 : Int)) = false := by simpa using h
    go_enter Try.func93, Try.ntmps93
    go_wp2
    go_ret3
    exact ⟨rfl, rfl⟩
end Go.Proofs.Ytccgnegdinakeaa
/- The walk of the reference's ins, a kind of instruction each. -/
namespace Go.Proofs.Ytccgnegdinakeaa
open Go.ChangeShapes Go.WideShapes Go.ChangeAt Go.RowKit
set_option linter.unusedVariables false
set_option linter.unusedSimpArgs false

def tri (x y z : Int) (t : Nat) : Int := if t = 0 then x else if t = 1 then y else z
/-- may a field be: of a kind (0: nothing, 1: a register) -/
def fok (R l f : Int) : Bool := if l = 0 then decide (f = 0) else if l = 1 then decide (0 ≤ f) && decide (f < R) else true
theorem fok_iff {R l f : Int} : fok R l f = true ↔ (l = 0 → f = 0) ∧ (l = 1 → 0 ≤ f ∧ f < R) := by
  unfold fok
  by_cases h0 : l = 0
  · simp [h0]
  by_cases h1 : l = 1
  · simp [h1]
  simp [h0, h1]

end Go.Proofs.Ytccgnegdinakeaa
/- The walk of the reference's ins, a kind of instruction each. -/
namespace Go.Proofs.Ytccgnegdinakeaa
open Go.ChangeShapes Go.WideShapes Go.ChangeAt Go.RowKit
set_option linter.unusedVariables false
set_option linter.unusedSimpArgs false

set_option maxRecDepth 100000 in
set_option maxHeartbeats 4000000 in
theorem rIns_1 (p : LProg) (vp : Value) (R : Int) (a b c n : Int) (fa : R64 a) (fb : R64 b) (fc : R64 c) (fn : R64 n) (fR : R64 R) (w : World) (hp : ProgAt w vp p) :
    Calls Try.prog 71 #[vp, .agg #[.int .i64 1, .int .i64 a, .int .i64 b, .int .i64 c, .int .i64 n], .int .i64 R] w fun e w' => e = .returned (.bool (insOk p R ⟨1, a, b, c, n⟩)) ∧ Ext w w' := by
  have HP := Lib.hid hp
  obtain ⟨v1, v2, rfl, ⟨hb, oa, cap, b0, o, rfl, hc1, hc2, hrow⟩, ⟨hf, ob, capb, b2, o2, rfl, hd1, hd2, hrow2⟩⟩ := hp
  have hlen := len_bd hc1 hc2
  have hlen2 := len_bd hd1 hd2
  have Hrow := Lib.hid hrow
  have hat := hrow.at_
  have r0 := fR.1; have r1 := fR.2
  have a0 := fa.1; have a1 := fa.2; have b00 := fb.1; have b01 := fb.2; have c0' := fc.1; have c1' := fc.2; have n0' := fn.1; have n1' := fn.2
  clear hc1 hc2 hd1 hd2 hrow hrow2 hb hf
  have Hgoal : ∀ r : Bool, Hid ((r = true ↔ insOk p R ⟨1, a, b, c, n⟩ = true) → insOk p R ⟨1, a, b, c, n⟩ = r) := fun r => Lib.hid fun h => by
    cases r <;> cases hh : insOk p R ⟨1, a, b, c, n⟩ <;> simp_all
  have Hins : Hid (insOk p R ⟨1, a, b, c, n⟩ = true ↔ (fok R 1 a = true ∧ fok R 0 b = true ∧ fok R 0 c = true) ∧ True) := Lib.hid (by
    simp only [fok_iff]
    unfold insOk; simp [okIn]
    try omega)
  go_enter Try.func71, Try.ntmps71
  go_wp2_with fail
  obtain ⟨W, g, hg, hW, hx, bA, bB⟩ := blocks2 w #[.slice oa p.regs.length cap, .slice ob p.code.length capb] #[.int .i64 1, .int .i64 a, .int .i64 b, .int .i64 c, .int .i64 n] 25 72
  rw [hW, hg]
  have X := Lib.hid hx
  clear hW hg hx
  have C := (shape_1 W)
  (with_reducible refine C.mono ?_)
  clear C
  rintro e w1 ⟨rfl, hw1⟩
  have bS : Blk w1 W.heap.size 3 #[.int .i64 1, .int .i64 0, .int .i64 0] := by rw [hw1]; exact Blk.new W _ _
  have h1 : Ext W w1 := by rw [hw1]; exact (Ext.refl W).alloc _
  clear hw1
  generalize W.heap.size = ks at *
  have bA := bA.ext h1
  have bB := bB.ext h1
  have X := Lib.hid (X.out.trans h1)
  clear h1
  have p0 : w1.cell? ⟨g, 0, none⟩ = some (.slice oa p.regs.length cap) := by rw [bA.cell]; rfl
  have p1 : w1.cell? ⟨g, 1, none⟩ = some (.slice ob p.code.length capb) := by rw [bA.cell]; rfl
  have e0 : w1.cell? ⟨g + 1, 0, none⟩ = some (.int .i64 1) := by rw [bB.cell]; rfl
  have e1 : w1.cell? ⟨g + 1, 1, none⟩ = some (.int .i64 a) := by rw [bB.cell]; rfl
  have e2 : w1.cell? ⟨g + 1, 2, none⟩ = some (.int .i64 b) := by rw [bB.cell]; rfl
  have e3 : w1.cell? ⟨g + 1, 3, none⟩ = some (.int .i64 c) := by rw [bB.cell]; rfl
  have e4 : w1.cell? ⟨g + 1, 4, none⟩ = some (.int .i64 n) := by rw [bB.cell]; rfl
  go_wp2_with fail
  obtain ⟨w2, hw2⟩ : ∃ w2, w2 = w1.alloc (.cells #[.int .i64 a, .int .i64 b, .int .i64 c] 3) := ⟨_, rfl⟩
  have bF : Blk w2 w1.heap.size 3 #[.int .i64 a, .int .i64 b, .int .i64 c] := by rw [hw2]; exact Blk.new w1 _ _
  have h2 : Ext w1 w2 := by rw [hw2]; exact (Ext.refl w1).alloc _
  rw [← hw2]
  clear hw2
  generalize w1.heap.size = kf at *
  have bA := bA.ext h2
  have bB := bB.ext h2
  have bS := bS.ext h2
  have X := Lib.hid (X.out.trans h2)
  clear h2 p0 p1 e0 e1 e2 e3 e4
  go_loopw [11] (fun i wr => ∃ j : Nat, j ≤ 3 ∧ i = .int .i64 j ∧ Ext w2 wr ∧ ∀ t, t < j → fok R (tri 1 0 0 t) (tri a b c t) = true) (fun i _ => 3 - (intOf i).toNat)
  case atStart => exact ⟨0, by omega, rfl, Ext.refl _, fun t ht => by omega⟩
  case round =>
    obtain ⟨j, hj, rfl, hE, hok⟩ := hrel
    have bA := bA.ext hE
    have bB := bB.ext hE
    have bS := bS.ext hE
    have bF := bF.ext hE
    have X := Lib.hid (X.out.trans hE)
    have HE := Lib.hid hE
    have Hok := Lib.hid hok
    clear hE hok
    by_cases hlt : j < 3
    · have hjj : j = 0 ∨ j = 1 ∨ j = 2 := by omega
      rcases hjj with rfl | rfl | rfl
      · have s0 : wr.cell? ⟨ks, 0, none⟩ = some (.int .i64 1) := by rw [bS.cell]; rfl
        have f0 : wr.cell? ⟨kf, 0, none⟩ = some (.int .i64 a) := by rw [bF.cell]; rfl
        by_cases hz : 0 ≤ a
        · by_cases hy : a < R
          · go_wp2
            go_roundw
            case rel => exact ⟨1, by omega, by first | rfl | go_num, HE.out, fun t ht => by
              rcases (show t < 0 ∨ t = 0 by omega) with h | h
              · exact Hok.out t h
              · subst h; exact fok_iff.2 ⟨fun h => absurd h (by decide), fun _ => ⟨hz, hy⟩⟩⟩
            case measure => simp [intOf]

          · go_wp2
            go_ret
            refine ⟨ret_b ?_, X.out⟩
            cases hh : insOk p R ⟨1, a, b, c, n⟩
            · rfl
            · exfalso
              have hq := Hins.out.1 hh
              (simp [fok_iff] at hq) <;> omega

        · go_wp2
          go_ret
          refine ⟨ret_b ?_, X.out⟩
          cases hh : insOk p R ⟨1, a, b, c, n⟩
          · rfl
          · exfalso
            have hq := Hins.out.1 hh
            (simp [fok_iff] at hq) <;> omega
      · have s0 : wr.cell? ⟨ks, 1, none⟩ = some (.int .i64 0) := by rw [bS.cell]; rfl
        have f0 : wr.cell? ⟨kf, 1, none⟩ = some (.int .i64 b) := by rw [bF.cell]; rfl
        by_cases hz : b = 0
        · have hz1 : (b != 0) = false := by simpa using hz
          go_wp2
          go_roundw
          case rel => exact ⟨2, by omega, by first | rfl | go_num, HE.out, fun t ht => by
            rcases (show t < 1 ∨ t = 1 by omega) with h | h
            · exact Hok.out t h
            · subst h; exact fok_iff.2 ⟨fun _ => hz, fun h => absurd h (by decide)⟩⟩
          case measure => simp [intOf]

        · have hz1 : (b != 0) = true := by simpa using hz
          go_wp2
          go_ret
          refine ⟨ret_b ?_, X.out⟩
          cases hh : insOk p R ⟨1, a, b, c, n⟩
          · rfl
          · exfalso
            have hq := Hins.out.1 hh
            (simp [fok_iff] at hq) <;> omega
      · have s0 : wr.cell? ⟨ks, 2, none⟩ = some (.int .i64 0) := by rw [bS.cell]; rfl
        have f0 : wr.cell? ⟨kf, 2, none⟩ = some (.int .i64 c) := by rw [bF.cell]; rfl
        by_cases hz : c = 0
        · have hz1 : (c != 0) = false := by simpa using hz
          go_wp2
          go_roundw
          case rel => exact ⟨3, by omega, by first | rfl | go_num, HE.out, fun t ht => by
            rcases (show t < 2 ∨ t = 2 by omega) with h | h
            · exact Hok.out t h
            · subst h; exact fok_iff.2 ⟨fun _ => hz, fun h => absurd h (by decide)⟩⟩
          case measure => simp [intOf]

        · have hz1 : (c != 0) = true := by simpa using hz
          go_wp2
          go_ret
          refine ⟨ret_b ?_, X.out⟩
          cases hh : insOk p R ⟨1, a, b, c, n⟩
          · rfl
          · exfalso
            have hq := Hins.out.1 hh
            (simp [fok_iff] at hq) <;> omega
    · obtain rfl : j = 3 := by omega
      have k0 := Hok.out 0 (by omega)
      have k1 := Hok.out 1 (by omega)
      have k2 := Hok.out 2 (by omega)
      have K := Lib.hid (And.intro k0 (And.intro k1 k2))
      clear k0 k1 k2
      have p0 : wr.cell? ⟨g, 0, none⟩ = some (.slice oa p.regs.length cap) := by rw [bA.cell]; rfl
      have p1 : wr.cell? ⟨g, 1, none⟩ = some (.slice ob p.code.length capb) := by rw [bA.cell]; rfl
      have e0 : wr.cell? ⟨g + 1, 0, none⟩ = some (.int .i64 1) := by rw [bB.cell]; rfl
      have e1 : wr.cell? ⟨g + 1, 1, none⟩ = some (.int .i64 a) := by rw [bB.cell]; rfl
      have e2 : wr.cell? ⟨g + 1, 2, none⟩ = some (.int .i64 b) := by rw [bB.cell]; rfl
      have e3 : wr.cell? ⟨g + 1, 3, none⟩ = some (.int .i64 c) := by rw [bB.cell]; rfl
      have e4 : wr.cell? ⟨g + 1, 4, none⟩ = some (.int .i64 n) := by rw [bB.cell]; rfl
      go_wp2
      go_ret
      exact ⟨ret_b (Hins.out.2 ⟨⟨K.out.1, K.out.2.1, K.out.2.2⟩, by first | trivial | omega⟩).symm, X.out⟩

set_option maxRecDepth 100000 in
set_option maxHeartbeats 4000000 in
theorem rIns_2 (p : LProg) (vp : Value) (R : Int) (a b c n : Int) (fa : R64 a) (fb : R64 b) (fc : R64 c) (fn : R64 n) (fR : R64 R) (w : World) (hp : ProgAt w vp p) :
    Calls Try.prog 71 #[vp, .agg #[.int .i64 2, .int .i64 a, .int .i64 b, .int .i64 c, .int .i64 n], .int .i64 R] w fun e w' => e = .returned (.bool (insOk p R ⟨2, a, b, c, n⟩)) ∧ Ext w w' := by
  have HP := Lib.hid hp
  obtain ⟨v1, v2, rfl, ⟨hb, oa, cap, b0, o, rfl, hc1, hc2, hrow⟩, ⟨hf, ob, capb, b2, o2, rfl, hd1, hd2, hrow2⟩⟩ := hp
  have hlen := len_bd hc1 hc2
  have hlen2 := len_bd hd1 hd2
  have Hrow := Lib.hid hrow
  have hat := hrow.at_
  have r0 := fR.1; have r1 := fR.2
  have a0 := fa.1; have a1 := fa.2; have b00 := fb.1; have b01 := fb.2; have c0' := fc.1; have c1' := fc.2; have n0' := fn.1; have n1' := fn.2
  clear hc1 hc2 hd1 hd2 hrow hrow2 hb hf
  have Hgoal : ∀ r : Bool, Hid ((r = true ↔ insOk p R ⟨2, a, b, c, n⟩ = true) → insOk p R ⟨2, a, b, c, n⟩ = r) := fun r => Lib.hid fun h => by
    cases r <;> cases hh : insOk p R ⟨2, a, b, c, n⟩ <;> simp_all
  have Hins : Hid (insOk p R ⟨2, a, b, c, n⟩ = true ↔ (fok R 1 a = true ∧ fok R 1 b = true ∧ fok R 0 c = true ∧ n = 0) ∧ True) := Lib.hid (by
    simp only [fok_iff]
    unfold insOk; simp [okIn]
    try omega)
  go_enter Try.func71, Try.ntmps71
  go_wp2_with fail
  obtain ⟨W, g, hg, hW, hx, bA, bB⟩ := blocks2 w #[.slice oa p.regs.length cap, .slice ob p.code.length capb] #[.int .i64 2, .int .i64 a, .int .i64 b, .int .i64 c, .int .i64 n] 25 72
  rw [hW, hg]
  have X := Lib.hid hx
  clear hW hg hx
  have C := (shape_2 W)
  (with_reducible refine C.mono ?_)
  clear C
  rintro e w1 ⟨rfl, hw1⟩
  have bS : Blk w1 W.heap.size 3 #[.int .i64 1, .int .i64 1, .int .i64 0] := by rw [hw1]; exact Blk.new W _ _
  have h1 : Ext W w1 := by rw [hw1]; exact (Ext.refl W).alloc _
  clear hw1
  generalize W.heap.size = ks at *
  have bA := bA.ext h1
  have bB := bB.ext h1
  have X := Lib.hid (X.out.trans h1)
  clear h1
  have p0 : w1.cell? ⟨g, 0, none⟩ = some (.slice oa p.regs.length cap) := by rw [bA.cell]; rfl
  have p1 : w1.cell? ⟨g, 1, none⟩ = some (.slice ob p.code.length capb) := by rw [bA.cell]; rfl
  have e0 : w1.cell? ⟨g + 1, 0, none⟩ = some (.int .i64 2) := by rw [bB.cell]; rfl
  have e1 : w1.cell? ⟨g + 1, 1, none⟩ = some (.int .i64 a) := by rw [bB.cell]; rfl
  have e2 : w1.cell? ⟨g + 1, 2, none⟩ = some (.int .i64 b) := by rw [bB.cell]; rfl
  have e3 : w1.cell? ⟨g + 1, 3, none⟩ = some (.int .i64 c) := by rw [bB.cell]; rfl
  have e4 : w1.cell? ⟨g + 1, 4, none⟩ = some (.int .i64 n) := by rw [bB.cell]; rfl
  by_cases hn : n = 0
  rotate_left
  · have hn1 : (n != 0) = true := by simpa using hn
    go_wp2
    go_ret
    refine ⟨ret_b ?_, X.out⟩
    cases hh : insOk p R ⟨2, a, b, c, n⟩
    · rfl
    · exfalso
      have hq := Hins.out.1 hh
      (simp [fok_iff] at hq) <;> omega
  subst hn
  clear n0' n1'
  go_wp2_with fail
  obtain ⟨w2, hw2⟩ : ∃ w2, w2 = w1.alloc (.cells #[.int .i64 a, .int .i64 b, .int .i64 c] 3) := ⟨_, rfl⟩
  have bF : Blk w2 w1.heap.size 3 #[.int .i64 a, .int .i64 b, .int .i64 c] := by rw [hw2]; exact Blk.new w1 _ _
  have h2 : Ext w1 w2 := by rw [hw2]; exact (Ext.refl w1).alloc _
  rw [← hw2]
  clear hw2
  generalize w1.heap.size = kf at *
  have bA := bA.ext h2
  have bB := bB.ext h2
  have bS := bS.ext h2
  have X := Lib.hid (X.out.trans h2)
  clear h2 p0 p1 e0 e1 e2 e3 e4
  go_loopw [11] (fun i wr => ∃ j : Nat, j ≤ 3 ∧ i = .int .i64 j ∧ Ext w2 wr ∧ ∀ t, t < j → fok R (tri 1 1 0 t) (tri a b c t) = true) (fun i _ => 3 - (intOf i).toNat)
  case atStart => exact ⟨0, by omega, rfl, Ext.refl _, fun t ht => by omega⟩
  case round =>
    obtain ⟨j, hj, rfl, hE, hok⟩ := hrel
    have bA := bA.ext hE
    have bB := bB.ext hE
    have bS := bS.ext hE
    have bF := bF.ext hE
    have X := Lib.hid (X.out.trans hE)
    have HE := Lib.hid hE
    have Hok := Lib.hid hok
    clear hE hok
    by_cases hlt : j < 3
    · have hjj : j = 0 ∨ j = 1 ∨ j = 2 := by omega
      rcases hjj with rfl | rfl | rfl
      · have s0 : wr.cell? ⟨ks, 0, none⟩ = some (.int .i64 1) := by rw [bS.cell]; rfl
        have f0 : wr.cell? ⟨kf, 0, none⟩ = some (.int .i64 a) := by rw [bF.cell]; rfl
        by_cases hz : 0 ≤ a
        · by_cases hy : a < R
          · go_wp2
            go_roundw
            case rel => exact ⟨1, by omega, by first | rfl | go_num, HE.out, fun t ht => by
              rcases (show t < 0 ∨ t = 0 by omega) with h | h
              · exact Hok.out t h
              · subst h; exact fok_iff.2 ⟨fun h => absurd h (by decide), fun _ => ⟨hz, hy⟩⟩⟩
            case measure => simp [intOf]

          · go_wp2
            go_ret
            refine ⟨ret_b ?_, X.out⟩
            cases hh : insOk p R ⟨2, a, b, c, 0⟩
            · rfl
            · exfalso
              have hq := Hins.out.1 hh
              (simp [fok_iff] at hq) <;> omega

        · go_wp2
          go_ret
          refine ⟨ret_b ?_, X.out⟩
          cases hh : insOk p R ⟨2, a, b, c, 0⟩
          · rfl
          · exfalso
            have hq := Hins.out.1 hh
            (simp [fok_iff] at hq) <;> omega
      · have s0 : wr.cell? ⟨ks, 1, none⟩ = some (.int .i64 1) := by rw [bS.cell]; rfl
        have f0 : wr.cell? ⟨kf, 1, none⟩ = some (.int .i64 b) := by rw [bF.cell]; rfl
        by_cases hz : 0 ≤ b
        · by_cases hy : b < R
          · go_wp2
            go_roundw
            case rel => exact ⟨2, by omega, by first | rfl | go_num, HE.out, fun t ht => by
              rcases (show t < 1 ∨ t = 1 by omega) with h | h
              · exact Hok.out t h
              · subst h; exact fok_iff.2 ⟨fun h => absurd h (by decide), fun _ => ⟨hz, hy⟩⟩⟩
            case measure => simp [intOf]

          · go_wp2
            go_ret
            refine ⟨ret_b ?_, X.out⟩
            cases hh : insOk p R ⟨2, a, b, c, 0⟩
            · rfl
            · exfalso
              have hq := Hins.out.1 hh
              (simp [fok_iff] at hq) <;> omega

        · go_wp2
          go_ret
          refine ⟨ret_b ?_, X.out⟩
          cases hh : insOk p R ⟨2, a, b, c, 0⟩
          · rfl
          · exfalso
            have hq := Hins.out.1 hh
            (simp [fok_iff] at hq) <;> omega
      · have s0 : wr.cell? ⟨ks, 2, none⟩ = some (.int .i64 0) := by rw [bS.cell]; rfl
        have f0 : wr.cell? ⟨kf, 2, none⟩ = some (.int .i64 c) := by rw [bF.cell]; rfl
        by_cases hz : c = 0
        · have hz1 : (c != 0) = false := by simpa using hz
          go_wp2
          go_roundw
          case rel => exact ⟨3, by omega, by first | rfl | go_num, HE.out, fun t ht => by
            rcases (show t < 2 ∨ t = 2 by omega) with h | h
            · exact Hok.out t h
            · subst h; exact fok_iff.2 ⟨fun _ => hz, fun h => absurd h (by decide)⟩⟩
          case measure => simp [intOf]

        · have hz1 : (c != 0) = true := by simpa using hz
          go_wp2
          go_ret
          refine ⟨ret_b ?_, X.out⟩
          cases hh : insOk p R ⟨2, a, b, c, 0⟩
          · rfl
          · exfalso
            have hq := Hins.out.1 hh
            (simp [fok_iff] at hq) <;> omega
    · obtain rfl : j = 3 := by omega
      have k0 := Hok.out 0 (by omega)
      have k1 := Hok.out 1 (by omega)
      have k2 := Hok.out 2 (by omega)
      have K := Lib.hid (And.intro k0 (And.intro k1 k2))
      clear k0 k1 k2
      have p0 : wr.cell? ⟨g, 0, none⟩ = some (.slice oa p.regs.length cap) := by rw [bA.cell]; rfl
      have p1 : wr.cell? ⟨g, 1, none⟩ = some (.slice ob p.code.length capb) := by rw [bA.cell]; rfl
      have e0 : wr.cell? ⟨g + 1, 0, none⟩ = some (.int .i64 2) := by rw [bB.cell]; rfl
      have e1 : wr.cell? ⟨g + 1, 1, none⟩ = some (.int .i64 a) := by rw [bB.cell]; rfl
      have e2 : wr.cell? ⟨g + 1, 2, none⟩ = some (.int .i64 b) := by rw [bB.cell]; rfl
      have e3 : wr.cell? ⟨g + 1, 3, none⟩ = some (.int .i64 c) := by rw [bB.cell]; rfl
      have e4 : wr.cell? ⟨g + 1, 4, none⟩ = some (.int .i64 0) := by rw [bB.cell]; rfl
      go_wp2
      go_ret
      exact ⟨ret_b (Hins.out.2 ⟨⟨K.out.1, K.out.2.1, K.out.2.2, by trivial⟩, by first | trivial | omega⟩).symm, X.out⟩

set_option maxRecDepth 100000 in
set_option maxHeartbeats 4000000 in
theorem rIns_3 (p : LProg) (vp : Value) (R : Int) (a b c n : Int) (fa : R64 a) (fb : R64 b) (fc : R64 c) (fn : R64 n) (fR : R64 R) (w : World) (hp : ProgAt w vp p) :
    Calls Try.prog 71 #[vp, .agg #[.int .i64 3, .int .i64 a, .int .i64 b, .int .i64 c, .int .i64 n], .int .i64 R] w fun e w' => e = .returned (.bool (insOk p R ⟨3, a, b, c, n⟩)) ∧ Ext w w' := by
  have HP := Lib.hid hp
  obtain ⟨v1, v2, rfl, ⟨hb, oa, cap, b0, o, rfl, hc1, hc2, hrow⟩, ⟨hf, ob, capb, b2, o2, rfl, hd1, hd2, hrow2⟩⟩ := hp
  have hlen := len_bd hc1 hc2
  have hlen2 := len_bd hd1 hd2
  have Hrow := Lib.hid hrow
  have hat := hrow.at_
  have r0 := fR.1; have r1 := fR.2
  have a0 := fa.1; have a1 := fa.2; have b00 := fb.1; have b01 := fb.2; have c0' := fc.1; have c1' := fc.2; have n0' := fn.1; have n1' := fn.2
  clear hc1 hc2 hd1 hd2 hrow hrow2 hb hf
  have Hgoal : ∀ r : Bool, Hid ((r = true ↔ insOk p R ⟨3, a, b, c, n⟩ = true) → insOk p R ⟨3, a, b, c, n⟩ = r) := fun r => Lib.hid fun h => by
    cases r <;> cases hh : insOk p R ⟨3, a, b, c, n⟩ <;> simp_all
  have Hins : Hid (insOk p R ⟨3, a, b, c, n⟩ = true ↔ (fok R 1 a = true ∧ fok R 1 b = true ∧ fok R 2 c = true) ∧ (0 ≤ c ∧ c < (p.regs.length : Int))) := Lib.hid (by
    simp only [fok_iff]
    unfold insOk; simp [okIn]
    try omega)
  go_enter Try.func71, Try.ntmps71
  go_wp2_with fail
  obtain ⟨W, g, hg, hW, hx, bA, bB⟩ := blocks2 w #[.slice oa p.regs.length cap, .slice ob p.code.length capb] #[.int .i64 3, .int .i64 a, .int .i64 b, .int .i64 c, .int .i64 n] 25 72
  rw [hW, hg]
  have X := Lib.hid hx
  clear hW hg hx
  have C := (shape_3 W)
  (with_reducible refine C.mono ?_)
  clear C
  rintro e w1 ⟨rfl, hw1⟩
  have bS : Blk w1 W.heap.size 3 #[.int .i64 1, .int .i64 1, .int .i64 2] := by rw [hw1]; exact Blk.new W _ _
  have h1 : Ext W w1 := by rw [hw1]; exact (Ext.refl W).alloc _
  clear hw1
  generalize W.heap.size = ks at *
  have bA := bA.ext h1
  have bB := bB.ext h1
  have X := Lib.hid (X.out.trans h1)
  clear h1
  have p0 : w1.cell? ⟨g, 0, none⟩ = some (.slice oa p.regs.length cap) := by rw [bA.cell]; rfl
  have p1 : w1.cell? ⟨g, 1, none⟩ = some (.slice ob p.code.length capb) := by rw [bA.cell]; rfl
  have e0 : w1.cell? ⟨g + 1, 0, none⟩ = some (.int .i64 3) := by rw [bB.cell]; rfl
  have e1 : w1.cell? ⟨g + 1, 1, none⟩ = some (.int .i64 a) := by rw [bB.cell]; rfl
  have e2 : w1.cell? ⟨g + 1, 2, none⟩ = some (.int .i64 b) := by rw [bB.cell]; rfl
  have e3 : w1.cell? ⟨g + 1, 3, none⟩ = some (.int .i64 c) := by rw [bB.cell]; rfl
  have e4 : w1.cell? ⟨g + 1, 4, none⟩ = some (.int .i64 n) := by rw [bB.cell]; rfl
  go_wp2_with fail
  obtain ⟨w2, hw2⟩ : ∃ w2, w2 = w1.alloc (.cells #[.int .i64 a, .int .i64 b, .int .i64 c] 3) := ⟨_, rfl⟩
  have bF : Blk w2 w1.heap.size 3 #[.int .i64 a, .int .i64 b, .int .i64 c] := by rw [hw2]; exact Blk.new w1 _ _
  have h2 : Ext w1 w2 := by rw [hw2]; exact (Ext.refl w1).alloc _
  rw [← hw2]
  clear hw2
  generalize w1.heap.size = kf at *
  have bA := bA.ext h2
  have bB := bB.ext h2
  have bS := bS.ext h2
  have X := Lib.hid (X.out.trans h2)
  clear h2 p0 p1 e0 e1 e2 e3 e4
  go_loopw [11] (fun i wr => ∃ j : Nat, j ≤ 3 ∧ i = .int .i64 j ∧ Ext w2 wr ∧ ∀ t, t < j → fok R (tri 1 1 2 t) (tri a b c t) = true) (fun i _ => 3 - (intOf i).toNat)
  case atStart => exact ⟨0, by omega, rfl, Ext.refl _, fun t ht => by omega⟩
  case round =>
    obtain ⟨j, hj, rfl, hE, hok⟩ := hrel
    have bA := bA.ext hE
    have bB := bB.ext hE
    have bS := bS.ext hE
    have bF := bF.ext hE
    have X := Lib.hid (X.out.trans hE)
    have HE := Lib.hid hE
    have Hok := Lib.hid hok
    clear hE hok
    by_cases hlt : j < 3
    · have hjj : j = 0 ∨ j = 1 ∨ j = 2 := by omega
      rcases hjj with rfl | rfl | rfl
      · have s0 : wr.cell? ⟨ks, 0, none⟩ = some (.int .i64 1) := by rw [bS.cell]; rfl
        have f0 : wr.cell? ⟨kf, 0, none⟩ = some (.int .i64 a) := by rw [bF.cell]; rfl
        by_cases hz : 0 ≤ a
        · by_cases hy : a < R
          · go_wp2
            go_roundw
            case rel => exact ⟨1, by omega, by first | rfl | go_num, HE.out, fun t ht => by
              rcases (show t < 0 ∨ t = 0 by omega) with h | h
              · exact Hok.out t h
              · subst h; exact fok_iff.2 ⟨fun h => absurd h (by decide), fun _ => ⟨hz, hy⟩⟩⟩
            case measure => simp [intOf]

          · go_wp2
            go_ret
            refine ⟨ret_b ?_, X.out⟩
            cases hh : insOk p R ⟨3, a, b, c, n⟩
            · rfl
            · exfalso
              have hq := Hins.out.1 hh
              (simp [fok_iff] at hq) <;> omega

        · go_wp2
          go_ret
          refine ⟨ret_b ?_, X.out⟩
          cases hh : insOk p R ⟨3, a, b, c, n⟩
          · rfl
          · exfalso
            have hq := Hins.out.1 hh
            (simp [fok_iff] at hq) <;> omega
      · have s0 : wr.cell? ⟨ks, 1, none⟩ = some (.int .i64 1) := by rw [bS.cell]; rfl
        have f0 : wr.cell? ⟨kf, 1, none⟩ = some (.int .i64 b) := by rw [bF.cell]; rfl
        by_cases hz : 0 ≤ b
        · by_cases hy : b < R
          · go_wp2
            go_roundw
            case rel => exact ⟨2, by omega, by first | rfl | go_num, HE.out, fun t ht => by
              rcases (show t < 1 ∨ t = 1 by omega) with h | h
              · exact Hok.out t h
              · subst h; exact fok_iff.2 ⟨fun h => absurd h (by decide), fun _ => ⟨hz, hy⟩⟩⟩
            case measure => simp [intOf]

          · go_wp2
            go_ret
            refine ⟨ret_b ?_, X.out⟩
            cases hh : insOk p R ⟨3, a, b, c, n⟩
            · rfl
            · exfalso
              have hq := Hins.out.1 hh
              (simp [fok_iff] at hq) <;> omega

        · go_wp2
          go_ret
          refine ⟨ret_b ?_, X.out⟩
          cases hh : insOk p R ⟨3, a, b, c, n⟩
          · rfl
          · exfalso
            have hq := Hins.out.1 hh
            (simp [fok_iff] at hq) <;> omega
      · have s0 : wr.cell? ⟨ks, 2, none⟩ = some (.int .i64 2) := by rw [bS.cell]; rfl
        have f0 : wr.cell? ⟨kf, 2, none⟩ = some (.int .i64 c) := by rw [bF.cell]; rfl
        go_wp2
        go_roundw
        case rel => exact ⟨3, by omega, by first | rfl | go_num, HE.out, fun t ht => by
          rcases (show t < 2 ∨ t = 2 by omega) with h | h
          · exact Hok.out t h
          · subst h; exact fok_iff.2 ⟨fun h => absurd h (by decide), fun h => absurd h (by decide)⟩⟩
        case measure => simp [intOf]
    · obtain rfl : j = 3 := by omega
      have k0 := Hok.out 0 (by omega)
      have k1 := Hok.out 1 (by omega)
      have k2 := Hok.out 2 (by omega)
      have K := Lib.hid (And.intro k0 (And.intro k1 k2))
      clear k0 k1 k2
      have p0 : wr.cell? ⟨g, 0, none⟩ = some (.slice oa p.regs.length cap) := by rw [bA.cell]; rfl
      have p1 : wr.cell? ⟨g, 1, none⟩ = some (.slice ob p.code.length capb) := by rw [bA.cell]; rfl
      have e0 : wr.cell? ⟨g + 1, 0, none⟩ = some (.int .i64 3) := by rw [bB.cell]; rfl
      have e1 : wr.cell? ⟨g + 1, 1, none⟩ = some (.int .i64 a) := by rw [bB.cell]; rfl
      have e2 : wr.cell? ⟨g + 1, 2, none⟩ = some (.int .i64 b) := by rw [bB.cell]; rfl
      have e3 : wr.cell? ⟨g + 1, 3, none⟩ = some (.int .i64 c) := by rw [bB.cell]; rfl
      have e4 : wr.cell? ⟨g + 1, 4, none⟩ = some (.int .i64 n) := by rw [bB.cell]; rfl
      by_cases q0 : 0 ≤ c
      · by_cases q1 : c < (p.regs.length : Int)
        · go_wp2
          go_ret
          exact ⟨ret_b (Hins.out.2 ⟨⟨K.out.1, K.out.2.1, K.out.2.2⟩, by first | trivial | omega⟩).symm, X.out⟩
        · have q1d : decide (c < (p.regs.length : Int)) = false := by simpa using q1
          go_wp2
          go_ret
          refine ⟨ret_b ?_, X.out⟩
          cases hh : insOk p R ⟨3, a, b, c, n⟩
          · rfl
          · exfalso
            have hq := Hins.out.1 hh
            (simp [fok_iff] at hq) <;> omega
      · have q0d : decide (0 ≤ c) = false := by simpa using q0
        go_wp2
        go_ret
        refine ⟨ret_b ?_, X.out⟩
        cases hh : insOk p R ⟨3, a, b, c, n⟩
        · rfl
        · exfalso
          have hq := Hins.out.1 hh
          (simp [fok_iff] at hq) <;> omega

end Go.Proofs.Ytccgnegdinakeaa
