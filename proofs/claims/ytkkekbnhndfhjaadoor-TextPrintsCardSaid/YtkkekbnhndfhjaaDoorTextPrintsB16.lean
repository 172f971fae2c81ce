/- Laid together from: Tx2, Tx3, Tx4. -/
import Derived.Test.YtkkekbnhndfhjaaDoorTextPrintsB11
import Derived.Test.YtkkekbnhndfhjaaDoorTextPrintsB12
import Derived.Test.YtkkekbnhndfhjaaDoorTextPrintsB15

namespace Go.Proofs.YtkkekbnhndfhjaaDoor
open Go.ChangeShapes Go.WideShapes Go.ChangeAt Go.RowKit
set_option linter.unusedVariables false
set_option linter.unusedSimpArgs false
def opIs (op : Int) : Prop := (1 ≤ op ∧ op ≤ 12) ∨ (21 ≤ op ∧ op ≤ 30)
theorem txt_op {p : LProg} {R : Int} {i : LIns} (h : insOk p R i = true) : opIs i.op ∧ (i.op = 8 → 1 ≤ i.c ∧ i.c ≤ 4) := by
  unfold insOk at h
  unfold opIs
  by_cases h12 : 1 ≤ i.op ∧ i.op ≤ 12
  · refine ⟨.inl h12, fun h8 => ?_⟩
    rw [h8] at h
    simp [okIn] at h
    omega
  · refine ⟨.inr ?_, fun h8 => by omega⟩
    simp only at h
    rw [if_neg (by omega), if_neg (by omega), if_neg (by omega), if_neg (by omega), if_neg (by omega), if_neg (by omega), if_neg (by omega), if_neg (by omega), if_neg (by omega), if_neg (by omega)] at h
    simp [okIn] at h
    omega
set_option maxHeartbeats 8000000 in
theorem rWord_c (op c : Int) (ho : opIs op) (hc : op = 8 → 1 ≤ c ∧ c ≤ 4) (w : World) :
    Calls Tryd.prog 32 #[.int .i64 op, .int .i64 c] w fun e w' => e = .returned (str (wordT op c)) ∧ Ext w w' := by
  by_cases h8 : op = 8
  · obtain ⟨c0, c1⟩ := hc h8
    subst h8
    have : c = 1 ∨ c = 2 ∨ c = 3 ∨ c = 4 := by omega
    clear hc c0 c1 ho
    rcases this with rfl | rfl | rfl | rfl
    all_goals
      go_enter Tryd.func32, Tryd.ntmps32
      go_wp2
      go_ret
      exact ⟨rfl, (Ext.refl _).alloc _⟩
  · have : op = 1 ∨ op = 2 ∨ op = 3 ∨ op = 4 ∨ op = 5 ∨ op = 6 ∨ op = 7 ∨ op = 9 ∨ op = 10 ∨ op = 11 ∨ op = 12 ∨ op = 21 ∨ op = 22 ∨ op = 23 ∨ op = 24 ∨ op = 25 ∨ op = 26 ∨ op = 27 ∨ op = 28 ∨ op = 29 ∨ op = 30 := by unfold opIs at ho; omega
    clear hc ho h8
    rcases this with rfl | rfl | rfl | rfl | rfl | rfl | rfl | rfl | rfl | rfl | rfl | rfl | rfl | rfl | rfl | rfl | rfl | rfl | rfl | rfl | rfl
    all_goals
      go_enter Tryd.func32, Tryd.ntmps32
      go_wp2
      go_ret
      exact ⟨rfl, (Ext.refl _).alloc _⟩
set_option maxHeartbeats 8000000 in
theorem rFollows_c (op : Int) (ho : opIs op) (w : World) :
    Calls Tryd.prog 33 #[.int .i64 op] w fun e w' => e = .returned (str (followT op)) ∧ Ext w w' := by
  have : op = 1 ∨ op = 2 ∨ op = 3 ∨ op = 4 ∨ op = 5 ∨ op = 6 ∨ op = 7 ∨ op = 8 ∨ op = 9 ∨ op = 10 ∨ op = 11 ∨ op = 12 ∨ op = 21 ∨ op = 22 ∨ op = 23 ∨ op = 24 ∨ op = 25 ∨ op = 26 ∨ op = 27 ∨ op = 28 ∨ op = 29 ∨ op = 30 := by unfold opIs at ho; omega
  clear ho
  rcases this with rfl | rfl | rfl | rfl | rfl | rfl | rfl | rfl | rfl | rfl | rfl | rfl | rfl | rfl | rfl | rfl | rfl | rfl | rfl | rfl | rfl | rfl
  all_goals
    go_enter Tryd.func33, Tryd.ntmps33
    go_wp2
    go_ret
    exact ⟨rfl, Ext.refl _⟩
theorem str_size (l : List UInt8) : (⟨l.toArray⟩ : ByteArray).size = l.length := by simp [ByteArray.size]
theorem str_index (l : List UInt8) (k : Nat) (x : UInt8) (h : l[k]? = some x) (w : World) : (Instr.index 9 (.string ⟨l.toArray⟩) (.int .i64 (k : Int))).run Tryd.prog w = .ok (.int .u8 (x.toNat : Int)) w := by
  obtain ⟨hk, rfl⟩ := List.getElem?_eq_some_iff.1 h
  rw [run_index_string w 9 ⟨l.toArray⟩ .i64 (k : Int) Tryd.underlying9, dif_pos ⟨by omega, by rw [str_size]; omega⟩]
  rfl
def Letter (x : UInt8) : Prop := x = 65 ∨ x = 66 ∨ x = 67 ∨ x = 68 ∨ x = 78
theorem follow_ok (op : Int) : (followT op).length ≤ 4 ∧ ∀ x ∈ followT op, Letter x := by
  unfold followT
  repeat' split
  all_goals
    refine ⟨by simp, fun x hx => ?_⟩
    first
      | (refine absurd hx ?_; simp; done)
      | (simp only [List.mem_cons, List.not_mem_nil, or_false] at hx; unfold Letter; rcases hx with h | h | h | h <;> simp [h])
      | (simp only [List.mem_cons, List.not_mem_nil, or_false] at hx; unfold Letter; rcases hx with h | h | h <;> simp [h])
      | (simp only [List.mem_cons, List.not_mem_nil, or_false] at hx; unfold Letter; rcases hx with h | h <;> simp [h])
      | (simp only [List.mem_cons, List.not_mem_nil, or_false] at hx; unfold Letter; simp [hx])
theorem word_len (op c : Int) : (wordT op c).length ≤ 5 := by
  unfold wordT
  repeat' split
  · generalize (op - 21).toNat = k
    match k with
    | 0 | 1 | 2 | 3 | 4 | 5 | 6 | 7 | 8 | 9 => simp [opsW]
    | k + 10 => simp [opsW]
  · generalize (c - 1).toNat = k
    match k with
    | 0 | 1 | 2 | 3 => simp [condsW]
    | k + 4 => simp [condsW]
  · generalize op.toNat = k
    match k with
    | 0 | 1 | 2 | 3 | 4 | 5 | 6 | 7 | 8 | 9 | 10 | 11 | 12 => simp [plainW]
    | k + 13 => simp [plainW]
theorem part_len {i : LIns} (h : i.fits) (f : UInt8) : (partT i f).length ≤ 22 := by
  obtain ⟨h1, h2, h3, h4, h5⟩ := h
  have a := itoa_len h2
  have b := itoa_len h3
  have c := itoa_len h4
  have n := itoa_len h5
  unfold partT
  repeat' split
  all_goals (simp only [List.length_cons]; omega)
theorem parts_len {i : LIns} (h : i.fits) : ∀ (l : List UInt8), (l.flatMap (partT i)).length ≤ 22 * l.length
  | [] => by simp
  | x :: l => by
    have h1 := part_len h x
    have h2 := parts_len h l
    rw [List.flatMap_cons, List.length_append, List.length_cons]
    omega
theorem line_len {i : LIns} (h : i.fits) : (lineT i).length ≤ 93 := by
  have h1 := word_len i.op i.c
  have h2 := parts_len h (followT i.op)
  have h3 := (follow_ok i.op).1
  unfold lineT
  rw [List.length_append]
  omega
set_option maxHeartbeats 8000000 in
theorem rline_c (i : LIns) (ho : opIs i.op) (hc : i.op = 8 → 1 ≤ i.c ∧ i.c ≤ 4) (hf : i.fits) (w : World) :
    Calls Tryd.prog 18 #[.agg #[.int .i64 i.op, .int .i64 i.a, .int .i64 i.b, .int .i64 i.c, .int .i64 i.n]] w fun e w' => e = .returned (str (lineT i ++ [10])) ∧ Ext w w' := by
  have hfits := hf
  obtain ⟨h1, h2, h3, h4, h5⟩ := hf
  have la := itoa_len h2
  have lb := itoa_len h3
  have lc := itoa_len h4
  have ln := itoa_len h5
  have Hw := Lib.hid fun W => rWord_c i.op i.c ho hc W
  have Hf := Lib.hid fun W => rFollows_c i.op ho W
  have Ha := Lib.hid fun W => rDigits_c i.a h2 W
  have Hb := Lib.hid fun W => rDigits_c i.b h3 W
  have Hc := Lib.hid fun W => rDigits_c i.c h4 W
  have Hn := Lib.hid fun W => rDigits_c i.n h5 W
  obtain ⟨hFl, hFx⟩ := follow_ok i.op
  have hwl := word_len i.op i.c
  have Hpl := Lib.hid fun l => parts_len hfits l
  have HFx := Lib.hid hFx
  have Hpt := Lib.hid (fun f : UInt8 => (rfl : partT i f = partT i f))
  unfold lineT
  generalize hP : partT i = P at *
  have HP := Lib.hid hP
  clear hP hfits Hpt
  generalize wordT i.op i.c = T at *
  generalize followT i.op = F at *
  obtain ⟨op, a, b, c, n⟩ := i
  simp only at *
  clear ho hc h1 h2 h3 h4 h5 hFx
  go_enter Tryd.func18, Tryd.ntmps18
  go_wp2_with fail
  obtain ⟨W, g, hg, hW, hx, bI⟩ := block1 w #[.int .i64 op, .int .i64 a, .int .i64 b, .int .i64 c, .int .i64 n] 46
  rw [hW, hg]
  have X := Lib.hid hx
  clear hW hg hx
  (with_reducible refine (Hw.out W).mono ?_)
  clear Hw
  rintro e w1 ⟨rfl, hx⟩
  have X := Lib.hid (X.out.trans hx)
  have bI := bI.ext hx
  have c0 : w1.cell? ⟨g, 0, none⟩ = some (.int .i64 op) := by rw [bI.cell]; rfl
  have hgl := bI.lt
  clear hx
  go_wp2_with fail
  (with_reducible refine (Hf.out w1).mono ?_)
  clear Hf
  rintro e w2 ⟨rfl, hx⟩
  have X := Lib.hid (X.out.trans hx)
  have BI := Lib.hid (bI.ext hx)
  have hsz := str_size F
  clear hx c0 hgl bI
  go_wp2_with fail
  go_loopw [3, 5] (fun s k wr => ∃ j : Nat, j ≤ F.length ∧ k = .int .i64 j ∧ s = str (T ++ (F.take j).flatMap P) ∧ Ext w2 wr) (fun s k _ => F.length - (intOf k).toNat)
  case atStart => exact ⟨0, by omega, rfl, by simp, Ext.refl _⟩
  case round =>
    obtain ⟨j, hj, rfl, rfl, hE⟩ := hrel
    have XE := Lib.hid hE
    have X := Lib.hid (X.out.trans hE)
    have bI := BI.out.ext hE
    have c1 : wr.cell? ⟨g, 1, none⟩ = some (.int .i64 a) := by rw [bI.cell]; rfl
    have c2 : wr.cell? ⟨g, 2, none⟩ = some (.int .i64 b) := by rw [bI.cell]; rfl
    have c3 : wr.cell? ⟨g, 3, none⟩ = some (.int .i64 c) := by rw [bI.cell]; rfl
    have c4 : wr.cell? ⟨g, 4, none⟩ = some (.int .i64 n) := by rw [bI.cell]; rfl
    have hgl := bI.lt
    have hSl : (T ++ (F.take j).flatMap P).length ≤ 93 := by
      have h1 := Hpl.out (F.take j)
      rw [List.length_take] at h1
      rw [List.length_append]
      omega
    clear hE bI
    by_cases hlt : j < F.length
    · have hix := str_index F j F[j] (by simp [hlt])
      have hm : Letter F[j] := HFx.out _ (List.getElem_mem hlt)
      have Htk : Hid (T ++ (F.take (j + 1)).flatMap P = T ++ (F.take j).flatMap P ++ P F[j]) := Lib.hid (by rw [List.take_succ_eq_append_getElem hlt, List.flatMap_append, List.append_assoc]; simp)
      generalize F[j] = x at *
      generalize T ++ (F.take j).flatMap P = M at *
      have hs1 := str_size M
      rcases hm with rfl | rfl | rfl | rfl | rfl
      · have e : P 65 = 32 :: 114 :: Lib.itoa a := by rw [← HP.out]; simp [partT]
        rw [e] at Htk
        clear e
        go_wp2_with fail
        (with_reducible refine (Ha.out _).mono ?_)
        rintro e w4 ⟨rfl, hx⟩
        have X := Lib.hid (X.out.trans hx)
        have XE := Lib.hid (XE.out.trans hx)
        clear hx c1 c2 c3 c4
        go_wp2
        go_roundw
        case rel => exact ⟨j + 1, by omega, by go_num, by rw [Htk.out]; simp [str, bytes_app], XE.out⟩
        case measure => first | (simp [intOf]; done) | (simp [intOf]; omega)
      · have e : P 66 = 32 :: 114 :: Lib.itoa b := by rw [← HP.out]; simp [partT]
        rw [e] at Htk
        clear e
        go_wp2_with fail
        (with_reducible refine (Hb.out _).mono ?_)
        rintro e w4 ⟨rfl, hx⟩
        have X := Lib.hid (X.out.trans hx)
        have XE := Lib.hid (XE.out.trans hx)
        clear hx c1 c2 c3 c4
        go_wp2
        go_roundw
        case rel => exact ⟨j + 1, by omega, by go_num, by rw [Htk.out]; simp [str, bytes_app], XE.out⟩
        case measure => first | (simp [intOf]; done) | (simp [intOf]; omega)
      · have e : P 67 = 32 :: 114 :: Lib.itoa c := by rw [← HP.out]; simp [partT]
        rw [e] at Htk
        clear e
        go_wp2_with fail
        (with_reducible refine (Hc.out _).mono ?_)
        rintro e w4 ⟨rfl, hx⟩
        have X := Lib.hid (X.out.trans hx)
        have XE := Lib.hid (XE.out.trans hx)
        clear hx c1 c2 c3 c4
        go_wp2
        go_roundw
        case rel => exact ⟨j + 1, by omega, by go_num, by rw [Htk.out]; simp [str, bytes_app], XE.out⟩
        case measure => first | (simp [intOf]; done) | (simp [intOf]; omega)
      · have e : P 68 = 32 :: 103 :: Lib.itoa c := by rw [← HP.out]; simp [partT]
        rw [e] at Htk
        clear e
        go_wp2_with fail
        (with_reducible refine (Hc.out _).mono ?_)
        rintro e w4 ⟨rfl, hx⟩
        have X := Lib.hid (X.out.trans hx)
        have XE := Lib.hid (XE.out.trans hx)
        clear hx c1 c2 c3 c4
        go_wp2
        go_roundw
        case rel => exact ⟨j + 1, by omega, by go_num, by rw [Htk.out]; simp [str, bytes_app], XE.out⟩
        case measure => first | (simp [intOf]; done) | (simp [intOf]; omega)
      · have e : P 78 = 32 :: Lib.itoa n := by rw [← HP.out]; simp [partT]
        rw [e] at Htk
        clear e
        go_wp2_with fail
        (with_reducible refine (Hn.out _).mono ?_)
        rintro e w4 ⟨rfl, hx⟩
        have X := Lib.hid (X.out.trans hx)
        have XE := Lib.hid (XE.out.trans hx)
        clear hx c1 c2 c3 c4
        go_wp2
        go_roundw
        case rel => exact ⟨j + 1, by omega, by go_num, by rw [Htk.out]; simp [str, bytes_app], XE.out⟩
        case measure => first | (simp [intOf]; done) | (simp [intOf]; omega)
    · have hje : j = F.length := by omega
      subst hje
      rw [List.take_length] at hSl ⊢
      generalize hM : T ++ F.flatMap P = M at *
      have HM := Lib.hid hM
      clear hM
      have hlt2 : decide ((F.length : Int) < (F.length : Int)) = false := by simp
      go_wp2
      go_ret
      exact ⟨by rw [HM.out]; simp [str, bytes_app], X.out⟩
def regB (r : LReg) : List UInt8 := regT r ++ [10]
def lineB (i : LIns) : List UInt8 := lineT i ++ [10]
theorem textT_eq (p : LProg) : textT p = p.regs.flatMap regB ++ p.code.flatMap lineB := rfl
theorem regB_len {r : LReg} (h : R64 r.log) : (regB r).length ≤ 40 := by
  have := itoa_len h
  unfold regB regT
  split <;> (simp only [List.length_append, List.length_cons, List.length_nil]; omega)
theorem lineB_len {i : LIns} (h : i.fits) : (lineB i).length ≤ 94 := by
  have := line_len h
  unfold lineB
  rw [List.length_append]
  simp only [List.length_cons, List.length_nil]
  omega
theorem flat_le {α : Type} {f : α → List UInt8} {m : Nat} : ∀ (l : List α), (∀ x ∈ l, (f x).length ≤ m) → (l.flatMap f).length ≤ m * l.length
  | [], _ => by simp
  | x :: l, h => by
    have h1 := h x List.mem_cons_self
    have h2 := flat_le l (fun y hy => h y (List.mem_cons_of_mem _ hy))
    rw [List.flatMap_cons, List.length_append, List.length_cons, Nat.mul_add]
    omega
theorem flat_take {α : Type} [Inhabited α] {f : α → List UInt8} {l : List α} {j : Nat} (h : j < l.length) : (l.take (j + 1)).flatMap f = (l.take j).flatMap f ++ f (l.getD j default) := by
  rw [List.take_succ_eq_append_getElem h, List.flatMap_append]
  simp [h]
set_option maxHeartbeats 8000000 in
theorem rText_c (p : LProg) (v : Value) (w : World) (hp : ProgAt w v p) (hr6 : p.regs.length ≤ 6) (hc8 : p.code.length ≤ 8000) (hall : ∀ i ∈ p.code, insOk p 10 i = true) :
    Calls Tryd.prog 9 #[v] w fun e w' => e = .returned (str (textT p)) ∧ Ext w w' := by
  obtain ⟨v1, v2, rfl, ⟨h64, oR, cR, bR, fR, rfl, hr1, hr2, hrow⟩, ⟨hfit, oC, cC, bC, fC, rfl, hc1, hc2, hrowc⟩⟩ := hp
  have hixR := index_regs (cap := cR) hrow.at_
  have hixC := index_code (cap := cC) hrowc.at_
  have Hrow := Lib.hid hrow
  have Hrowc := Lib.hid hrowc
  have Hall := Lib.hid hall
  have Hfit := Lib.hid hfit
  have H64 := Lib.hid h64
  rw [textT_eq]
  clear hrow hrowc hall hfit h64
  go_enter Tryd.func9, Tryd.ntmps9
  go_wp2_with fail
  obtain ⟨W, g, hg, hW, hx, bP⟩ := block1 w #[.slice oR p.regs.length cR, .slice oC p.code.length cC] 25
  rw [hW, hg]
  have X0 := Lib.hid hx
  have BP := Lib.hid bP
  clear hW hg hx bP
  go_loopw [3, 4] (fun s k wr => ∃ j : Nat, j ≤ p.regs.length ∧ k = .int .i64 j ∧ s = str ((p.regs.take j).flatMap regB) ∧ Ext W wr) (fun s k _ => p.regs.length - (intOf k).toNat)
  case atStart => exact ⟨0, by omega, rfl, by simp, Ext.refl _⟩
  case round =>
    obtain ⟨j, hj, rfl, rfl, hE⟩ := hrel
    have XE := Lib.hid hE
    have bP := BP.out.ext hE
    have c0 : wr.cell? ⟨g, 0, none⟩ = some (.slice oR p.regs.length cR) := by rw [bP.cell]; rfl
    have c1 : wr.cell? ⟨g, 1, none⟩ = some (.slice oC p.code.length cC) := by rw [bP.cell]; rfl
    have hgl := bP.lt
    have hMl : ((p.regs.take j).flatMap regB).length ≤ 240 := by
      have h1 := flat_le (m := 40) (f := regB) (p.regs.take j) (fun r hr => regB_len (H64.out r (List.mem_of_mem_take hr)))
      rw [List.length_take] at h1
      omega
    clear bP
    by_cases hlt : j < p.regs.length
    · obtain ⟨e0, e1⟩ := (Hrow.out.ext (X0.out.trans hE)).reg j hlt
      have Htk : Hid ((p.regs.take (j + 1)).flatMap regB = (p.regs.take j).flatMap regB ++ regB (p.regs.getD j default)) := Lib.hid (flat_take hlt)
      have hr64 := H64.out _ (getD_mem hlt)
      have la := itoa_len hr64
      have Hd := Lib.hid fun W => rDigits_c _ hr64 W
      have hbl := block_lt e0
      simp only at hbl
      generalize p.regs.getD j default = r at *
      generalize (p.regs.take j).flatMap regB = M at *
      clear hE hr64
      go_wp2_with fail
      (with_reducible refine (Hd.out _).mono ?_)
      rintro e w4 ⟨rfl, hx⟩
      have XE := Lib.hid (XE.out.trans hx)
      have c0 := hx.kept c0
      have e1 := hx.kept e1
      have hbl := hx.lt hbl
      have hgl := hx.lt hgl
      clear hx e0 Hd
      cases hs : r.secret
      · rw [hs] at e1
        have e2 : regB r = [114, 101, 103, 105, 111, 110, 32] ++ Lib.itoa r.log ++ [32, 112, 117, 98, 108, 105, 99, 10] := by simp [regB, regT, hs]
        rw [e2] at Htk
        clear e2 hs
        go_wp2
        go_roundw
        case rel => exact ⟨j + 1, by omega, by go_num, by rw [Htk.out]; simp [str, bytes_app], XE.out⟩
        case measure => first | (simp [intOf]; done) | (simp [intOf]; omega)
      · rw [hs] at e1
        have e2 : regB r = [114, 101, 103, 105, 111, 110, 32] ++ Lib.itoa r.log ++ [32, 115, 101, 99, 114, 101, 116, 10] := by simp [regB, regT, hs]
        rw [e2] at Htk
        clear e2 hs
        go_wp2
        go_roundw
        case rel => exact ⟨j + 1, by omega, by go_num, by rw [Htk.out]; simp [str, bytes_app], XE.out⟩
        case measure => first | (simp [intOf]; done) | (simp [intOf]; omega)
    · have hje : j = p.regs.length := by omega
      subst hje
      rw [List.take_length] at hMl ⊢
      have hlt2 : decide ((p.regs.length : Int) < (p.regs.length : Int)) = false := by simp
      generalize hA : p.regs.flatMap regB = A at *
      have HA := Lib.hid hA
      have BP2 := Lib.hid (BP.out.ext hE)
      have X2 := Lib.hid (X0.out.trans hE)
      clear hA hE XE c1
      go_wp2_with fail
      go_loopw [3, 5, 6] (fun s k _ wr2 => ∃ j : Nat, j ≤ p.code.length ∧ k = .int .i64 j ∧ s = str (A ++ (p.code.take j).flatMap lineB) ∧ Ext wr wr2) (fun s k _ _ => p.code.length - (intOf k).toNat)
      case atStart => exact ⟨0, by omega, rfl, by simp, Ext.refl _⟩
      case round =>
        obtain ⟨j, hj, rfl, rfl, hE⟩ := hrel
        have bP := BP2.out.ext hE
        have c1 : wr.cell? ⟨g, 1, none⟩ = some (.slice oC p.code.length cC) := by rw [bP.cell]; rfl
        have hgl2 := bP.lt
        have XX := Lib.hid (X2.out.trans hE)
        have hMl2 : (A ++ (p.code.take j).flatMap lineB).length ≤ 760000 := by
          have h1 := flat_le (m := 94) (f := lineB) (p.code.take j) (fun r hr => lineB_len (Hfit.out r (List.mem_of_mem_take hr)))
          rw [List.length_take] at h1
          rw [List.length_append]
          omega
        clear bP
        by_cases hlt : j < p.code.length
        · obtain ⟨e0, e1, e2, e3, e4⟩ := (Hrowc.out.ext XX.out).ins j hlt
          have Htk : Hid (A ++ (p.code.take (j + 1)).flatMap lineB = A ++ (p.code.take j).flatMap lineB ++ lineB (p.code.getD j default)) := Lib.hid (by rw [flat_take hlt, List.append_assoc])
          obtain ⟨ho, hc⟩ := txt_op (Hall.out _ (getD_mem hlt))
          have hfi := Hfit.out _ (getD_mem hlt)
          have hll := lineB_len hfi
          have Hd := Lib.hid fun W => rline_c _ ho hc hfi W
          have hbl := block_lt e0
          simp only at hbl
          have XE := Lib.hid hE
          generalize p.code.getD j default = i at *
          generalize A ++ (p.code.take j).flatMap lineB = M at *
          clear hE ho hc hfi
          go_wp2_with fail
          (with_reducible refine (Hd.out _).mono ?_)
          rintro e w4 ⟨rfl, hx⟩
          have XE := Lib.hid (XE.out.trans hx)
          have hlB : lineT i ++ [10] = lineB i := rfl
          rw [hlB]
          generalize lineB i = L at *
          clear hx e0 e1 e2 e3 e4 Hd c1 hlB
          go_wp2
          go_roundw
          case rel => exact ⟨j + 1, by omega, by go_num, by rw [Htk.out]; simp [str, bytes_app], XE.out⟩
          case measure => first | (simp [intOf]; done) | (simp [intOf]; omega)
        · have hje : j = p.code.length := by omega
          subst hje
          rw [List.take_length] at hMl2 ⊢
          have hlt3 : decide ((p.code.length : Int) < (p.code.length : Int)) = false := by simp
          generalize hB : A ++ p.code.flatMap lineB = B at *
          have HB := Lib.hid hB
          clear hB hE
          go_wp2
          go_ret
          exact ⟨by rw [HA.out, HB.out]; rfl, XX.out⟩
end Go.Proofs.YtkkekbnhndfhjaaDoor
