/- Laid together from: Txh. -/
import Derived.Test.YtkkekbnhndfhjaaDoorTextParsesB29
import Derived.Test.YtkkekbnhndfhjaaDoorTextParsesB27
import Derived.Test.YtkkekbnhndfhjaaDoorTextParsesB24
import Derived.Test.YtkkekbnhndfhjaaDoorTextParsesB22
import Derived.Test.YtkkekbnhndfhjaaDoorTextParsesB13

namespace Go.Proofs.YtkkekbnhndfhjaaDoor
open Go.ChangeShapes Go.WideShapes Go.ChangeAt Go.RowKit
set_option linter.unusedVariables false
set_option linter.unusedSimpArgs false
theorem part_le (c : UInt8) : ∀ (s x : List UInt8), x ∈ splitT c s → x.length ≤ s.length
  | [], x, h => by
    simp only [splitT, List.mem_singleton] at h
    subst h
    simp
  | b :: l, x, h => by
    unfold splitT at h
    split at h
    · rcases List.mem_cons.1 h with rfl | h
      · simp
      · have := part_le c l x h
        simp; omega
    · rcases List.mem_cons.1 h with rfl | h
      · have hne := split_ne c l
        cases hs : splitT c l with
        | nil => exact absurd hs hne
        | cons y r =>
          have := part_le c l y (by rw [hs]; simp)
          simp; omega
      · have := part_le c l x (List.mem_of_mem_tail h)
        simp; omega
theorem strs_own {w : World} {B : Nat} {v : Value} {L : List (List UInt8)} (h : w.ownsRow B 9 1 v L.length (L.map str)) (h0 : 1 ≤ L.length) : StrsAt w v L := by
  have h' := h
  rcases h.2 with ⟨-, he⟩ | ⟨k, cap, cur, rfl, a1, a2, a3, a4, -⟩
  · omega
  · refine ⟨k, cap, rfl, a3, a4, (h'.lt k rfl).2, fun j hj => ?_⟩
    rw [h'.cellAt j (by omega), List.getElem?_map, List.getElem?_eq_getElem hj, List.getD_eq_getElem?_getD, List.getElem?_eq_getElem hj]
    rfl
def lineW (p : LProg) (ws : List (List UInt8)) : Option LProg :=
  if ws.getD 0 [] = regionW then
    if ws.length ≠ 3 ∨ 0 < p.code.length ∨ (ws.getD 2 [] ≠ publicW ∧ ws.getD 2 [] ≠ secretW) then none
    else (numT (ws.getD 1 []) 18).map fun n => ⟨p.regs ++ [⟨n, decide (ws.getD 2 [] = secretW)⟩], p.code⟩
  else (readT ws).map fun i => ⟨p.regs, p.code ++ [i]⟩
theorem lineP_eq (p : LProg) (l : List UInt8) : lineP p l = lineW p (splitT 32 l) := rfl
theorem go_at {L : List (List UInt8)} {k : Nat} (p : LProg) (h : k + 1 < L.length) : parseGo (L.drop k) k p = match lineP p (L.getD k []) with
    | none => (⟨[], []⟩, 2, (k : Int))
    | some q => parseGo (L.drop (k + 1)) (k + 1) q := by
  rw [List.drop_eq_getElem_cons (by omega : k < L.length)]
  have hne : L.drop (k + 1) ≠ [] := by
    intro e
    have := congrArg List.length e
    rw [List.length_drop, List.length_nil] at this
    omega
  have hg : L.getD k [] = L[k] := by rw [List.getD_eq_getElem?_getD, List.getElem?_eq_getElem]; rfl
  rw [hg]
  show (if L.drop (k + 1) = [] then _ else _) = _
  rw [if_neg hne]
  cases lineP p L[k] <;> rfl
theorem go_end {L : List (List UInt8)} {k : Nat} (p : LProg) (h : L.length = k + 1) : parseGo (L.drop k) k p = if L.getD k [] = [] ∧ hardOk p = true then (p, 0, 0) else (⟨[], []⟩, 2, (k : Int)) := by
  rw [List.drop_eq_getElem_cons (by omega : k < L.length)]
  have he : L.drop (k + 1) = [] := List.drop_eq_nil_of_le (by omega)
  have hg : L.getD k [] = L[k] := by rw [List.getD_eq_getElem?_getD, List.getElem?_eq_getElem]; rfl
  rw [hg, he]
  show (if ([] : List (List UInt8)) = [] then _ else _) = _
  rw [if_pos rfl]
theorem getD_in {L : List (List UInt8)} {k : Nat} (h : k < L.length) : L.getD k [] ∈ L := by
  rw [List.getD_eq_getElem?_getD, List.getElem?_eq_getElem h]
  exact List.getElem_mem h
theorem rsplit10 (s : List UInt8) (hs : s.length ≤ 1000000000) (w : World) : Calls Tryd.prog 21 #[str s, .int .u8 10] w (RSplitPost 10 s w) := rsplit_c 10 s hs w
theorem rsplit32 (s : List UInt8) (hs : s.length ≤ 1000000000) (w : World) : Calls Tryd.prog 21 #[str s, .int .u8 32] w (RSplitPost 32 s w) := rsplit_c 32 s hs w
def ParsePost (s : List UInt8) (w : World) (e : Ending) (w' : World) : Prop :=
  ∃ u, e = .returned (.tuple #[u, .agg #[.int .i64 (parseT s).2.1, .int .i64 (parseT s).2.2]]) ∧ ProgAt w' u (parseT s).1 ∧ (∀ i ∈ (parseT s).1.code, i.fits) ∧ Ext w w'
theorem nil_prog (w : World) : ProgAt w (.agg #[.slice none 0 0, .slice none 0 0]) ⟨[], []⟩ :=
  ⟨_, _, rfl, regs_own (base := 0) (e := 0) (World.ownsRow_nil _ _ _ _) (by simp), code_own (base := 0) (e := 0) (World.ownsRow_nil _ _ _ _) (by simp)⟩
theorem ParsePost.no {s : List UInt8} {w w' : World} {k : Nat} (h : parseT s = (⟨[], []⟩, 2, (k : Int))) (hx : Ext w w') : ParsePost s w (.returned (.tuple #[.agg #[.slice none 0 0, .slice none 0 0], .agg #[.int .i64 2, .int .i64 (k : Int)]])) w' := by
  refine ⟨_, by rw [h], ?_, ?_, hx⟩
  · rw [h]; exact nil_prog _
  · rw [h]; simp
theorem ParsePost.yes {s : List UInt8} {w w' : World} {u : Value} {p : LProg} (h : parseT s = (p, 0, 0)) (hu : ProgAt w' u p) (hf : ∀ i ∈ p.code, i.fits) (hx : Ext w w') : ParsePost s w (.returned (.tuple #[u, .agg #[.int .i64 0, .int .i64 0]])) w' := by
  refine ⟨u, by rw [h], ?_, ?_, hx⟩
  · rw [h]; exact hu
  · rw [h]; exact hf
theorem put_prog {w0 w : World} {B g go T : Nat} {vR vC a b c d z u : Value} {regs : List LReg} {code : List LIns} (h : TSt w0 w B go T vR vC regs code) (hA : Blk w g 25 #[a, b]) (hB : Blk w (g + 1) 32 #[c, d]) :
    ProgAt ((((w.setCell ⟨g, 0, none⟩ vR).setCell ⟨g, 1, none⟩ vC).setCell ⟨g + 1, 0, none⟩ z).setCell ⟨g + 1, 1, none⟩ u) (.agg #[vR, vC]) ⟨regs, code⟩ :=
  ⟨_, _, rfl, regs_own (own4_t h.rg hA hB (by decide) (by decide)) h.fr, code_own (own4_t h.cd hA hB (by decide) (by decide)) h.fc⟩
set_option maxRecDepth 100000 in
set_option maxHeartbeats 16000000 in
theorem rParse_c (s : List UInt8) (hs : s.length ≤ 1000000000) (w : World) :
    Calls Tryd.prog 11 #[str s] w (ParsePost s w) := by
  obtain ⟨i0, hi0, hz0, hz1, hz2⟩ := info_parts infoRegT
  obtain ⟨j0, hj0, hy0, hy1, hy2⟩ := info_parts infoInsT
  obtain ⟨L, hL⟩ : ∃ L, splitT 10 s = L := ⟨_, rfl⟩
  have HL := Lib.hid hL
  obtain ⟨n, hn⟩ : ∃ n, L.length = n + 1 := ⟨L.length - 1, by have := splitT_len 10 s; rw [hL] at this; omega⟩
  have hn9 : n ≤ 1000000000 := by have := splitT_len 10 s; have h2 := List.count_le_length (a := (10 : UInt8)) (l := s); rw [hL] at this; omega
  have Hn := Lib.hid hn
  have HLp : Hid (∀ x ∈ L, x.length ≤ 1000000000) := Lib.hid (fun x hx => by rw [← hL] at hx; have := part_le 10 s x hx; omega)
  have HP0 : Hid (parseGo (L.drop 0) 0 ⟨[], []⟩ = parseT s) := Lib.hid (by unfold parseT; rw [hL]; rfl)
  have hwe : wrap64 ((L.length : Int) - 1) = (n : Int) := by rw [hn]; unfold wrap64; omega
  have HSp := Lib.hid fun W => rsplit10 s hs W
  clear hL hn hs
  go_enter Tryd.func11, Tryd.ntmps11
  go_upto_region 1 with fail
  obtain ⟨W, g, hg, hW, hx, bR, bF⟩ := blocks2 w #[.slice none 0 0, .slice none 0 0] #[.int .i64 0, .int .i64 0] 25 32
  rw [hW, hg]
  have X := Lib.hid hx
  have Hg : Hid (w.heap.size ≤ g) := Lib.hid (by omega)
  have BR := Lib.hid bR
  have BF := Lib.hid bF
  clear hW hg hx bR bF
  go_wp2_with fail
  (with_reducible refine (HSp.out W).mono ?_)
  rintro e w1 ⟨v, rfl, hown, hx⟩
  rw [HL.out] at hown
  obtain ⟨kL, capL, rfl, hcL, hcmL, hkL, hcells⟩ := strs_own hown (by have := Hn.out; omega)
  have X1 := Lib.hid (X.out.trans hx)
  have HcL := Lib.hid fun W' (Y : Ext w1 W') j hj => Y.kept (hcells j hj)
  have BR1 := Lib.hid (BR.out.ext hx)
  have BF1 := Lib.hid (BF.out.ext hx)
  have hixL := index_strs (oa := some ⟨kL, 0, none⟩) (n := L.length) (b := kL) (o := 0) (cap := capL) (fun _ => rfl)
  clear hown hcells hx BR BF
  go_upto_region 4 with fail
  obtain ⟨w4, go, hgo, hW, hx, bP⟩ := block1 w1 #[.slice none 0 0, .slice none 0 0] 25
  rw [hW, hgo]
  have HS0 : Hid (TSt w1 w4 w1.heap.size go 25 (.slice none 0 0) (.slice none 0 0) [] []) := Lib.hid ⟨bP, World.ownsRow_nil _ _ _ _, World.ownsRow_nil _ _ _ _, hx, by omega, Nat.le_refl _, by decide, by decide, by simp, by simp⟩
  clear hW hgo hx bP
  go_wp2_with fail
  simp only [hwe]
  go_loopw [7] (fun kv wr => ∃ (k : Nat) (vR vC : Value) (regs : List LReg) (code : List LIns), kv = .int .i64 (k : Int) ∧ k ≤ n ∧ regs.length + code.length ≤ k ∧ TSt w1 wr w1.heap.size go 25 vR vC regs code ∧ parseGo (L.drop k) k ⟨regs, code⟩ = parseT s) (fun kv _ => n - (intOf kv).toNat)
  case atStart => exact ⟨0, _, _, [], [], rfl, by omega, by simp, HS0.out, HP0.out⟩
  case round =>
    obtain ⟨k, vR, vC, regs, code, rfl, hk, hrc, hS, hP⟩ := hrel
    have HS := Lib.hid hS
    have HPk := Lib.hid hP
    obtain ⟨oR, cR, rfl⟩ := own_slice hS.rg
    obtain ⟨oC, cC, rfl⟩ := own_slice hS.cd
    obtain ⟨d0, d1⟩ := hS.cells
    have hgol := hS.box.lt
    have hkLr := Nat.lt_of_lt_of_le hkL hS.ext.size
    clear hP hS
    by_cases hlt : k < n
    case neg =>
      obtain rfl : k = n := by omega
      have Hst := Lib.hid (go_end (⟨regs, code⟩ : LProg) Hn.out)
      rw [HPk.out] at Hst
      have c0 := HcL.out wr HS.out.ext k (by have := Hn.out; omega)
      have hkin : (k : Int) < (L.length : Int) := by have := Hn.out; omega
      generalize L.getD k [] = l at *
      have HR := Lib.hid fun W (Y : Ext wr W) => rHard_c ⟨regs, code⟩ _ W (HS.out.prog.ext Y)
      by_cases he : l = []
      case neg =>
        have q : (l != []) = true := by simpa using he
        have HN : Hid (parseT s = (⟨[], []⟩, 2, (k : Int))) := Lib.hid (by rw [Hst.out, if_neg (fun h => he h.1)])
        clear HR
        have bR := BR1.out.ext HS.out.ext
        have bF := BF1.out.ext HS.out.ext
        have r0 := (⟨by rw [bR.cell]; rfl, bR.frozen _⟩ : wr.cell? ⟨g, 0, none⟩ = some (.slice none 0 0) ∧ wr.frozen? ⟨g, 0, none⟩ = false)
        have r1 := (⟨by rw [bR.cell]; rfl, bR.frozen _⟩ : wr.cell? ⟨g, 1, none⟩ = some (.slice none 0 0) ∧ wr.frozen? ⟨g, 1, none⟩ = false)
        have f0 := (⟨by rw [bF.cell]; rfl, bF.frozen _⟩ : wr.cell? ⟨g + 1, 0, none⟩ = some (.int .i64 0) ∧ wr.frozen? ⟨g + 1, 0, none⟩ = false)
        have f1 := (⟨by rw [bF.cell]; rfl, bF.frozen _⟩ : wr.cell? ⟨g + 1, 1, none⟩ = some (.int .i64 0) ∧ wr.frozen? ⟨g + 1, 1, none⟩ = false)
        have HB := Lib.hid (And.intro bR bF)
        have hgl := bF.lt
        have hgl0 := bR.lt
        clear bR bF
        go_wp2
        refine bodyPost_ret (results_cc (put4_t HB.out.1 HB.out.2).1 (put4_t HB.out.1 HB.out.2).2 rfl _ rfl rfl Tryd.underlying25 rfl infoProgT Tryd.underlying32 rfl infoFaultT) rfl ?_
        exact ParsePost.no HN.out (ext4_t (X1.out.trans HS.out.ext) Hg.out)
      case pos =>
        have q : (l != []) = false := by simpa using he
        go_wp2_with fail
        (with_reducible refine (HR.out wr (Ext.refl _)).mono ?_)
        rintro e w5 ⟨rfl, hx⟩
        have HS5 := Lib.hid (HS.out.extend hx)
        clear hx d0 d1 c0 hgol hkLr HR
        obtain ⟨d0, d1⟩ := HS5.out.cells
        have hgol := HS5.out.box.lt
        cases hh : hardOk ⟨regs, code⟩
        case false =>
          have HN : Hid (parseT s = (⟨[], []⟩, 2, (k : Int))) := Lib.hid (by rw [Hst.out, if_neg (fun h => by rw [hh] at h; exact Bool.noConfusion h.2)])
          have bR := BR1.out.ext HS5.out.ext
          have bF := BF1.out.ext HS5.out.ext
          have r0 := (⟨by rw [bR.cell]; rfl, bR.frozen _⟩ : w5.cell? ⟨g, 0, none⟩ = some (.slice none 0 0) ∧ w5.frozen? ⟨g, 0, none⟩ = false)
          have r1 := (⟨by rw [bR.cell]; rfl, bR.frozen _⟩ : w5.cell? ⟨g, 1, none⟩ = some (.slice none 0 0) ∧ w5.frozen? ⟨g, 1, none⟩ = false)
          have f0 := (⟨by rw [bF.cell]; rfl, bF.frozen _⟩ : w5.cell? ⟨g + 1, 0, none⟩ = some (.int .i64 0) ∧ w5.frozen? ⟨g + 1, 0, none⟩ = false)
          have f1 := (⟨by rw [bF.cell]; rfl, bF.frozen _⟩ : w5.cell? ⟨g + 1, 1, none⟩ = some (.int .i64 0) ∧ w5.frozen? ⟨g + 1, 1, none⟩ = false)
          have HB := Lib.hid (And.intro bR bF)
          have hgl := bF.lt
          have hgl0 := bR.lt
          clear bR bF
          go_wp2
          refine bodyPost_ret (results_cc (put4_t HB.out.1 HB.out.2).1 (put4_t HB.out.1 HB.out.2).2 rfl _ rfl rfl Tryd.underlying25 rfl infoProgT Tryd.underlying32 rfl infoFaultT) rfl ?_
          exact ParsePost.no HN.out (ext4_t (X1.out.trans HS5.out.ext) Hg.out)
        case true =>
          have HN : Hid (parseT s = (⟨regs, code⟩, 0, 0)) := Lib.hid (by rw [Hst.out, if_pos ⟨he, hh⟩])
          have bR := BR1.out.ext HS5.out.ext
          have bF := BF1.out.ext HS5.out.ext
          have r0 := (⟨by rw [bR.cell]; rfl, bR.frozen _⟩ : w5.cell? ⟨g, 0, none⟩ = some (.slice none 0 0) ∧ w5.frozen? ⟨g, 0, none⟩ = false)
          have r1 := (⟨by rw [bR.cell]; rfl, bR.frozen _⟩ : w5.cell? ⟨g, 1, none⟩ = some (.slice none 0 0) ∧ w5.frozen? ⟨g, 1, none⟩ = false)
          have f0 := (⟨by rw [bF.cell]; rfl, bF.frozen _⟩ : w5.cell? ⟨g + 1, 0, none⟩ = some (.int .i64 0) ∧ w5.frozen? ⟨g + 1, 0, none⟩ = false)
          have f1 := (⟨by rw [bF.cell]; rfl, bF.frozen _⟩ : w5.cell? ⟨g + 1, 1, none⟩ = some (.int .i64 0) ∧ w5.frozen? ⟨g + 1, 1, none⟩ = false)
          have HB := Lib.hid (And.intro bR bF)
          have hgl := bF.lt
          have hgl0 := bR.lt
          clear bR bF
          go_wp2
          refine bodyPost_ret (results_cc (put4_t HB.out.1 HB.out.2).1 (put4_t HB.out.1 HB.out.2).2 rfl _ rfl rfl Tryd.underlying25 rfl infoProgT Tryd.underlying32 rfl infoFaultT) rfl ?_
          exact ParsePost.yes HN.out (put_prog HS5.out HB.out.1 HB.out.2) HS5.out.fc (ext4_t (X1.out.trans HS5.out.ext) Hg.out)
    case pos =>
      have hkL1 : k + 1 < L.length := by have := Hn.out; omega
      have Hst := Lib.hid (go_at (⟨regs, code⟩ : LProg) hkL1)
      rw [HPk.out] at Hst
      have c0 := HcL.out wr HS.out.ext k (by omega)
      have hkin : (k : Int) < (L.length : Int) := by omega
      have Hll := Lib.hid (HLp.out (L.getD k []) (getD_in (by omega)))
      clear hkL1
      generalize L.getD k [] = l at *
      go_wp2_with fail
      (with_reducible refine (rsplit32 l Hll.out _).mono ?_)
      rintro e w5 ⟨v5, rfl, hown, hx⟩
      have HS5 := Lib.hid (HS.out.extend hx)
      have hsl := splitT_len 32 l
      have hcl := List.count_le_length (a := (32 : UInt8)) (l := l)
      have hw1 : 1 ≤ (splitT 32 l).length := by omega
      have HV := Lib.hid (strs_own hown hw1)
      have Hw : Hid (∀ x ∈ splitT 32 l, x.length ≤ 1000000000) := Lib.hid (fun x h => by have := part_le 32 l x h; have := Hll.out; omega)
      rw [lineP_eq] at Hst
      generalize splitT 32 l = ws at *
      obtain ⟨kw, cw, rfl, hcw, hcmw, hkw, hcells⟩ := HV.out
      have Hcw := Lib.hid fun W (Y : Ext w5 W) j hj => Y.kept (hcells j hj)
      have hixw := index_strs (oa := some ⟨kw, 0, none⟩) (n := ws.length) (b := kw) (o := 0) (cap := cw) (fun _ => rfl)
      clear hown hx hsl hcl hcells d0 d1 c0 hgol hkLr
      obtain ⟨d0, d1⟩ := HS5.out.cells
      have hgol := HS5.out.box.lt
      obtain ⟨x0, hx0⟩ : ∃ x, ws.getD 0 [] = x := ⟨_, rfl⟩
      have cw0 := Hcw.out w5 (Ext.refl _) 0 (by omega)
      rw [hx0] at cw0
      have Hx0 := Lib.hid hx0
      clear hx0
      by_cases h0 : x0 = regionW
      case neg =>
        have q0 : (x0 == [114, 101, 103, 105, 111, 110]) = false := by simpa [regionW] using h0
        have Hl : Hid (lineW ⟨regs, code⟩ ws = (readT ws).map fun i => ⟨regs, code ++ [i]⟩) := Lib.hid (by unfold lineW; rw [Hx0.out, if_neg h0])
        rw [Hl.out] at Hst
        clear h0
        go_wp2_with fail
        (with_reducible refine (rread_c ws _ w5 HV.out hw1 Hw.out).mono ?_)
        rintro e w6 ⟨ii, b, rfl, hb, hx⟩
        have HS6 := Lib.hid (HS5.out.extend hx)
        clear hx d0 d1 hgol cw0
        go_upto_region 16 with fail
        obtain ⟨w7, gi, hgi, hW, hx, bI⟩ := block1 w6 (insTV ii) 46
        rw [hW, hgi]
        have HS7 := Lib.hid (HS6.out.extend hx)
        have BI := Lib.hid bI
        clear hW hgi hx
        obtain ⟨d0, d1⟩ := HS7.out.cells
        have hgol := HS7.out.box.lt
        rcases hb with ⟨rfl, hb, hf⟩ | ⟨rfl, hb⟩
        case inr =>
          have HN : Hid (parseT s = (⟨[], []⟩, 2, (k : Int))) := Lib.hid (by rw [Hst.out, hb]; rfl)
          clear hb bI
          have bR := BR1.out.ext HS7.out.ext
          have bF := BF1.out.ext HS7.out.ext
          have r0 := (⟨by rw [bR.cell]; rfl, bR.frozen _⟩ : w7.cell? ⟨g, 0, none⟩ = some (.slice none 0 0) ∧ w7.frozen? ⟨g, 0, none⟩ = false)
          have r1 := (⟨by rw [bR.cell]; rfl, bR.frozen _⟩ : w7.cell? ⟨g, 1, none⟩ = some (.slice none 0 0) ∧ w7.frozen? ⟨g, 1, none⟩ = false)
          have f0 := (⟨by rw [bF.cell]; rfl, bF.frozen _⟩ : w7.cell? ⟨g + 1, 0, none⟩ = some (.int .i64 0) ∧ w7.frozen? ⟨g + 1, 0, none⟩ = false)
          have f1 := (⟨by rw [bF.cell]; rfl, bF.frozen _⟩ : w7.cell? ⟨g + 1, 1, none⟩ = some (.int .i64 0) ∧ w7.frozen? ⟨g + 1, 1, none⟩ = false)
          have HB := Lib.hid (And.intro bR bF)
          have hgl := bF.lt
          have hgl0 := bR.lt
          clear bR bF
          go_wp2
          refine bodyPost_ret (results_cc (put4_t HB.out.1 HB.out.2).1 (put4_t HB.out.1 HB.out.2).2 rfl _ rfl rfl Tryd.underlying25 rfl infoProgT Tryd.underlying32 rfl infoFaultT) rfl ?_
          exact ParsePost.no HN.out (ext4_t (X1.out.trans HS7.out.ext) Hg.out)
        case inl =>
          have HN : Hid (parseGo (L.drop (k + 1)) (k + 1) ⟨regs, code ++ [ii]⟩ = parseT s) := Lib.hid (by rw [Hst.out, hb]; rfl)
          have Hf := Lib.hid hf
          clear hb hf
          obtain ⟨e0, e1, e2, e3, e4⟩ := cells5 bI
          have hgil := bI.lt
          have hBs := HS7.out.size
          clear bI
          go_wp2_with (at_builtin; refine wpList_append_src _ rfl _ _ 23 rfl w1.heap.size 46 j0 _ 5 40 Tryd.underlying23 hj0 hy0 hy1 hy2 rfl (by decide) _ _ _ rfl (own_alloc HS7.out.cd) (some ⟨w7.heap.size, 0, none⟩) 1 1 (insCells ii) rfl ?c1 ?c3 ?c4 ?c5 ?_)
          case c1 => exact src_new (size := 5) (Blk.new w7 46 (insTV ii)) rfl (by simp [Value.oneCell'])
          case c3 => unfold maxLen; omega
          case c4 => omega
          case c5 => simp; omega
          intro vC' w8 hown hgrow hat2
          clear hat2
          obtain ⟨oC2, cC2, rfl⟩ := own_slice hown
          have hxa := (Ext.refl w7).alloc (.cells (insTV ii) 46)
          have HSa := HS7.out.extend hxa
          have hgrow : (w7.alloc (.cells (insTV ii) 46)).grownBy w8 (Value.slice oC code.length cC).ownBlock := hgrow
          have hlen : (code ++ [ii]).length = code.length + 1 := by simp
          have HS8 : Hid (TSt w1 (w8.setCell ⟨go, 1, none⟩ (.slice oC2 (code.length + 1) cC2)) w1.heap.size go 25 (.slice oR regs.length cR) (.slice oC2 (code.length + 1) cC2) regs (code ++ [ii])) := Lib.hid (HSa.code_ hgrow (by rw [hlen, List.flatMap_append]; simpa using hown) (fun i hi => by rcases List.mem_append.1 hi with h | h; exact HS7.out.fc i h; rw [List.mem_singleton.1 h]; exact Hf.out))
          have hb8 := HSa.box.grown hgrow (own_ne HSa.cd HSa.box (by decide))
          have p1 : w8.cell? ⟨go, 1, none⟩ = some (.slice oC code.length cC) ∧ w8.frozen? ⟨go, 1, none⟩ = false := ⟨by rw [hb8.cell]; rfl, hb8.frozen _⟩
          have hgo8 := hb8.lt
          have hrc2 : regs.length + (code ++ [ii]).length ≤ k + 1 := by rw [hlen]; omega
          clear hown hgrow hxa HSa hb8 hlen d0 d1 e0 e1 e2 e3 e4 hgol hgil
          go_wp2
          go_roundw
          case rel => exact ⟨k + 1, _, _, regs, code ++ [ii], by go_num, by omega, hrc2, HS8.out, HN.out⟩
          case measure => first | (simp [intOf]; done) | (simp [intOf]; omega)
      case pos =>
        have q0 : (x0 == [114, 101, 103, 105, 111, 110]) = true := by simpa [regionW] using h0
        have Hl : Hid (lineW ⟨regs, code⟩ ws = if ws.length ≠ 3 ∨ 0 < code.length ∨ (ws.getD 2 [] ≠ publicW ∧ ws.getD 2 [] ≠ secretW) then none else (numT (ws.getD 1 []) 18).map fun n => ⟨regs ++ [⟨n, decide (ws.getD 2 [] = secretW)⟩], code⟩) := Lib.hid (by unfold lineW; rw [Hx0.out, if_pos h0])
        rw [Hl.out] at Hst
        clear h0
        by_cases h3 : ws.length = 3
        case neg =>
          have q3 : ((ws.length : Int) != 3) = true := by simpa using (show ¬ (ws.length : Int) = 3 by omega)
          have HN : Hid (parseT s = (⟨[], []⟩, 2, (k : Int))) := Lib.hid (by rw [Hst.out, if_pos (.inl h3)])
          clear h3
          have bR := BR1.out.ext HS5.out.ext
          have bF := BF1.out.ext HS5.out.ext
          have r0 := (⟨by rw [bR.cell]; rfl, bR.frozen _⟩ : w5.cell? ⟨g, 0, none⟩ = some (.slice none 0 0) ∧ w5.frozen? ⟨g, 0, none⟩ = false)
          have r1 := (⟨by rw [bR.cell]; rfl, bR.frozen _⟩ : w5.cell? ⟨g, 1, none⟩ = some (.slice none 0 0) ∧ w5.frozen? ⟨g, 1, none⟩ = false)
          have f0 := (⟨by rw [bF.cell]; rfl, bF.frozen _⟩ : w5.cell? ⟨g + 1, 0, none⟩ = some (.int .i64 0) ∧ w5.frozen? ⟨g + 1, 0, none⟩ = false)
          have f1 := (⟨by rw [bF.cell]; rfl, bF.frozen _⟩ : w5.cell? ⟨g + 1, 1, none⟩ = some (.int .i64 0) ∧ w5.frozen? ⟨g + 1, 1, none⟩ = false)
          have HB := Lib.hid (And.intro bR bF)
          have hgl := bF.lt
          have hgl0 := bR.lt
          clear bR bF
          go_wp2
          refine bodyPost_ret (results_cc (put4_t HB.out.1 HB.out.2).1 (put4_t HB.out.1 HB.out.2).2 rfl _ rfl rfl Tryd.underlying25 rfl infoProgT Tryd.underlying32 rfl infoFaultT) rfl ?_
          exact ParsePost.no HN.out (ext4_t (X1.out.trans HS5.out.ext) Hg.out)
        case pos =>
          have q3 : ((ws.length : Int) != 3) = false := by simpa using (show (ws.length : Int) = 3 by omega)
          obtain ⟨x1, hx1⟩ : ∃ x, ws.getD 1 [] = x := ⟨_, rfl⟩
          obtain ⟨x2, hx2⟩ : ∃ x, ws.getD 2 [] = x := ⟨_, rfl⟩
          have cw1 := Hcw.out w5 (Ext.refl _) 1 (by omega)
          have cw2 := Hcw.out w5 (Ext.refl _) 2 (by omega)
          rw [hx1] at cw1
          rw [hx2] at cw2
          have hx1l : x1.length ≤ 1000000000 := by rw [← hx1]; exact Hw.out _ (getD_in (by omega))
          have hi0w : (0 : Int) < (ws.length : Int) := by omega
          have hi1w : (1 : Int) < (ws.length : Int) := by omega
          have hi2w : (2 : Int) < (ws.length : Int) := by omega
          rw [hx1, hx2] at Hst
          have H3 := Lib.hid h3
          clear hx1 hx2 h3
          by_cases hc0 : 0 < code.length
          case pos =>
            have HN : Hid (parseT s = (⟨[], []⟩, 2, (k : Int))) := Lib.hid (by rw [Hst.out, if_pos (.inr (.inl hc0))])
            have bR := BR1.out.ext HS5.out.ext
            have bF := BF1.out.ext HS5.out.ext
            have r0 := (⟨by rw [bR.cell]; rfl, bR.frozen _⟩ : w5.cell? ⟨g, 0, none⟩ = some (.slice none 0 0) ∧ w5.frozen? ⟨g, 0, none⟩ = false)
            have r1 := (⟨by rw [bR.cell]; rfl, bR.frozen _⟩ : w5.cell? ⟨g, 1, none⟩ = some (.slice none 0 0) ∧ w5.frozen? ⟨g, 1, none⟩ = false)
            have f0 := (⟨by rw [bF.cell]; rfl, bF.frozen _⟩ : w5.cell? ⟨g + 1, 0, none⟩ = some (.int .i64 0) ∧ w5.frozen? ⟨g + 1, 0, none⟩ = false)
            have f1 := (⟨by rw [bF.cell]; rfl, bF.frozen _⟩ : w5.cell? ⟨g + 1, 1, none⟩ = some (.int .i64 0) ∧ w5.frozen? ⟨g + 1, 1, none⟩ = false)
            have HB := Lib.hid (And.intro bR bF)
            have hgl := bF.lt
            have hgl0 := bR.lt
            clear bR bF
            go_wp2
            refine bodyPost_ret (results_cc (put4_t HB.out.1 HB.out.2).1 (put4_t HB.out.1 HB.out.2).2 rfl _ rfl rfl Tryd.underlying25 rfl infoProgT Tryd.underlying32 rfl infoFaultT) rfl ?_
            exact ParsePost.no HN.out (ext4_t (X1.out.trans HS5.out.ext) Hg.out)
          case neg =>
            have hcd : (code.length : Int) = 0 := by omega
            have qc : decide ((0 : Int) < (code.length : Int)) = false := decide_eq_false (by omega)
            by_cases hp : x2 = publicW
            case pos =>
              have qp : (x2 != [112, 117, 98, 108, 105, 99]) = false := by simpa [publicW] using hp
              have qs : (x2 == [115, 101, 99, 114, 101, 116]) = false := by rw [hp]; decide
              have HC : Hid (¬ (ws.length ≠ 3 ∨ 0 < code.length ∨ (x2 ≠ publicW ∧ x2 ≠ secretW))) := Lib.hid (by have := H3.out; rintro (h | h | h); exact h this; omega; exact h.1 hp)
              have HD : Hid (decide (x2 = secretW) = false) := Lib.hid (by rw [hp]; decide)
              have hpl : x2 = [112, 117, 98, 108, 105, 99] := hp
              clear qp qs hp
              subst hpl
              go_wp2_with fail
              (with_reducible refine (rnumber18 x1 hx1l _).mono ?_)
              rintro e w6 ⟨m, ok, rfl, hm, hok, hx⟩
              rw [refN_eq] at hok
              have HS6 := Lib.hid (HS5.out.extend hx)
              have cw2 := hx.kept cw2
              have hkw6 := hx.lt hkw
              have hkw5 := hkw
              clear d0 d1 hgol cw0 cw1 hkw
              obtain ⟨d0, d1⟩ := HS6.out.cells
              have hgol := HS6.out.box.lt
              clear hx
              rcases hok with ⟨rfl, hok⟩ | ⟨rfl, hok⟩
              case inr =>
                have HN : Hid (parseT s = (⟨[], []⟩, 2, (k : Int))) := Lib.hid (by rw [Hst.out, if_neg HC.out, hok]; rfl)
                clear hok
                have bR := BR1.out.ext HS6.out.ext
                have bF := BF1.out.ext HS6.out.ext
                have r0 := (⟨by rw [bR.cell]; rfl, bR.frozen _⟩ : w6.cell? ⟨g, 0, none⟩ = some (.slice none 0 0) ∧ w6.frozen? ⟨g, 0, none⟩ = false)
                have r1 := (⟨by rw [bR.cell]; rfl, bR.frozen _⟩ : w6.cell? ⟨g, 1, none⟩ = some (.slice none 0 0) ∧ w6.frozen? ⟨g, 1, none⟩ = false)
                have f0 := (⟨by rw [bF.cell]; rfl, bF.frozen _⟩ : w6.cell? ⟨g + 1, 0, none⟩ = some (.int .i64 0) ∧ w6.frozen? ⟨g + 1, 0, none⟩ = false)
                have f1 := (⟨by rw [bF.cell]; rfl, bF.frozen _⟩ : w6.cell? ⟨g + 1, 1, none⟩ = some (.int .i64 0) ∧ w6.frozen? ⟨g + 1, 1, none⟩ = false)
                have HB := Lib.hid (And.intro bR bF)
                have hgl := bF.lt
                have hgl0 := bR.lt
                clear bR bF
                go_wp2
                refine bodyPost_ret (results_cc (put4_t HB.out.1 HB.out.2).1 (put4_t HB.out.1 HB.out.2).2 rfl _ rfl rfl Tryd.underlying25 rfl infoProgT Tryd.underlying32 rfl infoFaultT) rfl ?_
                exact ParsePost.no HN.out (ext4_t (X1.out.trans HS6.out.ext) Hg.out)
              case inl =>
                have HN : Hid (parseGo (L.drop (k + 1)) (k + 1) ⟨regs ++ [⟨m, false⟩], code⟩ = parseT s) := Lib.hid (by rw [Hst.out, if_neg HC.out, hok]; simp [HD.out])
                have Hm := Lib.hid hm
                clear hok hm
                have hBs := HS6.out.size
                go_upto_region 14 with fail
                have k0 : ∀ Wx, Ext w6 Wx → Wx.cell? ⟨go, 0, none⟩ = some (.slice oR regs.length cR) := fun _ h => h.kept d0.1
                have k2 : ∀ Wx, Ext w6 Wx → Wx.cell? ⟨kw, 2, none⟩ = some (str [112, 117, 98, 108, 105, 99]) := fun _ h => h.kept cw2
                clear d0 d1 cw2
                refine region_float [8, 9, 10, 11] 1 (by kernel_rfl) (by kernel_rfl) ?_
                repeat (first | (refine cw_heavy ?_ ?_; (decide)) | (refine cw_value ?_ ?_ ?_; (decide); (first | rfl | (focus (go_simp; done))); apply Exists.intro; refine ⟨fun wc hE => ?_, ?_⟩; (go_simp; exact rfl); go_simp) | (refine cw_skip ?_ ?_ ?_; (decide); (focus (go_simp; done)); go_simp))
                refine cw_nil ?_
                intro w7 hx
                have HS7 := Lib.hid (HS6.out.extend hx)
                have HX := Lib.hid hx
                have hBs7 := HS7.out.size
                clear k0 k2 hx hBs
                refine wpF_soft rfl ?_
                go_wp2
                refine ⟨HX.out.alloc _, ?_⟩
                refine wpF_hard (heavies_cons rfl (heavies_cons rfl (heavies_cons rfl (heavies_nil)))) ?_
                refine wpList_append_src _ rfl _ _ 22 rfl w1.heap.size 43 i0 _ 2 16 Tryd.underlying22 hi0 hz0 hz1 hz2 rfl (by decide) _ _ _ rfl (own_alloc HS7.out.rg) (some ⟨w7.heap.size, 0, none⟩) 1 1 (regCells ⟨m, false⟩) rfl ?c1 ?c3 ?c4 ?c5 ?_
                case c1 => exact src_new (size := 2) (Blk.new w7 43 #[.int .i64 m, .bool false]) rfl (by simp [Value.oneCell'])
                case c3 => unfold maxLen; omega
                case c4 => omega
                case c5 => simp; omega
                intro vR' w8 hown hgrow hat2
                clear hat2
                obtain ⟨oR2, cR2, rfl⟩ := own_slice hown
                have hxa := (Ext.refl w7).alloc (.cells #[.int .i64 m, .bool false] 43)
                have HSa := HS7.out.extend hxa
                have hgrow : (w7.alloc (.cells #[.int .i64 m, .bool false] 43)).grownBy w8 (Value.slice oR regs.length cR).ownBlock := hgrow
                have hlen : (regs ++ [(⟨m, false⟩ : LReg)]).length = regs.length + 1 := by simp
                have HS8 : Hid (TSt w1 (w8.setCell ⟨go, 0, none⟩ (.slice oR2 (regs.length + 1) cR2)) w1.heap.size go 25 (.slice oR2 (regs.length + 1) cR2) (.slice oC code.length cC) (regs ++ [⟨m, false⟩]) code) := Lib.hid (HSa.regs_ hgrow (by rw [hlen, List.flatMap_append]; simpa using hown) (fun r hr => by rcases List.mem_append.1 hr with h | h; exact HS7.out.fr r h; rw [List.mem_singleton.1 h]; exact Hm.out))
                have hb8 := HSa.box.grown hgrow (own_ne HSa.rg HSa.box (by decide))
                have p0 : w8.cell? ⟨go, 0, none⟩ = some (.slice oR regs.length cR) ∧ w8.frozen? ⟨go, 0, none⟩ = false := ⟨by rw [hb8.cell]; rfl, hb8.frozen _⟩
                have hgo8 := hb8.lt
                have hrc2 : (regs ++ [(⟨m, false⟩ : LReg)]).length + code.length ≤ k + 1 := by rw [hlen]; omega
                clear hown hgrow hxa HSa hb8 hlen hgol
                go_wp2
                go_roundw
                case rel => exact ⟨k + 1, _, _, regs ++ [⟨m, false⟩], code, by go_num, by omega, hrc2, HS8.out, HN.out⟩
                case measure => first | (simp [intOf]; done) | (simp [intOf]; omega)
            case neg =>
              have qp : (x2 != [112, 117, 98, 108, 105, 99]) = true := by simpa [publicW] using hp
              by_cases hq : x2 = secretW
              case pos =>
                have qn : (x2 != [115, 101, 99, 114, 101, 116]) = false := by simpa [secretW] using hq
                have qs : (x2 == [115, 101, 99, 114, 101, 116]) = true := by simpa [secretW] using hq
                have HC : Hid (¬ (ws.length ≠ 3 ∨ 0 < code.length ∨ (x2 ≠ publicW ∧ x2 ≠ secretW))) := Lib.hid (by have := H3.out; rintro (h | h | h); exact h this; omega; exact h.2 hq)
                have HD : Hid (decide (x2 = secretW) = true) := Lib.hid (by rw [hq]; decide)
                have hql : x2 = [115, 101, 99, 114, 101, 116] := hq
                clear qn qs qp hp hq
                subst hql
                go_wp2_with fail
                (with_reducible refine (rnumber18 x1 hx1l _).mono ?_)
                rintro e w6 ⟨m, ok, rfl, hm, hok, hx⟩
                rw [refN_eq] at hok
                have HS6 := Lib.hid (HS5.out.extend hx)
                have cw2 := hx.kept cw2
                have hkw6 := hx.lt hkw
                have hkw5 := hkw
                clear d0 d1 hgol cw0 cw1 hkw
                obtain ⟨d0, d1⟩ := HS6.out.cells
                have hgol := HS6.out.box.lt
                clear hx
                rcases hok with ⟨rfl, hok⟩ | ⟨rfl, hok⟩
                case inr =>
                  have HN : Hid (parseT s = (⟨[], []⟩, 2, (k : Int))) := Lib.hid (by rw [Hst.out, if_neg HC.out, hok]; rfl)
                  clear hok
                  have bR := BR1.out.ext HS6.out.ext
                  have bF := BF1.out.ext HS6.out.ext
                  have r0 := (⟨by rw [bR.cell]; rfl, bR.frozen _⟩ : w6.cell? ⟨g, 0, none⟩ = some (.slice none 0 0) ∧ w6.frozen? ⟨g, 0, none⟩ = false)
                  have r1 := (⟨by rw [bR.cell]; rfl, bR.frozen _⟩ : w6.cell? ⟨g, 1, none⟩ = some (.slice none 0 0) ∧ w6.frozen? ⟨g, 1, none⟩ = false)
                  have f0 := (⟨by rw [bF.cell]; rfl, bF.frozen _⟩ : w6.cell? ⟨g + 1, 0, none⟩ = some (.int .i64 0) ∧ w6.frozen? ⟨g + 1, 0, none⟩ = false)
                  have f1 := (⟨by rw [bF.cell]; rfl, bF.frozen _⟩ : w6.cell? ⟨g + 1, 1, none⟩ = some (.int .i64 0) ∧ w6.frozen? ⟨g + 1, 1, none⟩ = false)
                  have HB := Lib.hid (And.intro bR bF)
                  have hgl := bF.lt
                  have hgl0 := bR.lt
                  clear bR bF
                  go_wp2
                  refine bodyPost_ret (results_cc (put4_t HB.out.1 HB.out.2).1 (put4_t HB.out.1 HB.out.2).2 rfl _ rfl rfl Tryd.underlying25 rfl infoProgT Tryd.underlying32 rfl infoFaultT) rfl ?_
                  exact ParsePost.no HN.out (ext4_t (X1.out.trans HS6.out.ext) Hg.out)
                case inl =>
                  have HN : Hid (parseGo (L.drop (k + 1)) (k + 1) ⟨regs ++ [⟨m, true⟩], code⟩ = parseT s) := Lib.hid (by rw [Hst.out, if_neg HC.out, hok]; simp [HD.out])
                  have Hm := Lib.hid hm
                  clear hok hm
                  have hBs := HS6.out.size
                  go_upto_region 14 with fail
                  have k0 : ∀ Wx, Ext w6 Wx → Wx.cell? ⟨go, 0, none⟩ = some (.slice oR regs.length cR) := fun _ h => h.kept d0.1
                  have k2 : ∀ Wx, Ext w6 Wx → Wx.cell? ⟨kw, 2, none⟩ = some (str [115, 101, 99, 114, 101, 116]) := fun _ h => h.kept cw2
                  clear d0 d1 cw2
                  refine region_float [8, 9, 10, 11] 1 (by kernel_rfl) (by kernel_rfl) ?_
                  repeat (first | (refine cw_heavy ?_ ?_; (decide)) | (refine cw_value ?_ ?_ ?_; (decide); (first | rfl | (focus (go_simp; done))); apply Exists.intro; refine ⟨fun wc hE => ?_, ?_⟩; (go_simp; exact rfl); go_simp) | (refine cw_skip ?_ ?_ ?_; (decide); (focus (go_simp; done)); go_simp))
                  refine cw_nil ?_
                  intro w7 hx
                  have HS7 := Lib.hid (HS6.out.extend hx)
                  have HX := Lib.hid hx
                  have hBs7 := HS7.out.size
                  clear k0 k2 hx hBs
                  refine wpF_soft rfl ?_
                  go_wp2
                  refine ⟨HX.out.alloc _, ?_⟩
                  refine wpF_hard (heavies_cons rfl (heavies_cons rfl (heavies_cons rfl (heavies_nil)))) ?_
                  refine wpList_append_src _ rfl _ _ 22 rfl w1.heap.size 43 i0 _ 2 16 Tryd.underlying22 hi0 hz0 hz1 hz2 rfl (by decide) _ _ _ rfl (own_alloc HS7.out.rg) (some ⟨w7.heap.size, 0, none⟩) 1 1 (regCells ⟨m, true⟩) rfl ?c1 ?c3 ?c4 ?c5 ?_
                  case c1 => exact src_new (size := 2) (Blk.new w7 43 #[.int .i64 m, .bool true]) rfl (by simp [Value.oneCell'])
                  case c3 => unfold maxLen; omega
                  case c4 => omega
                  case c5 => simp; omega
                  intro vR' w8 hown hgrow hat2
                  clear hat2
                  obtain ⟨oR2, cR2, rfl⟩ := own_slice hown
                  have hxa := (Ext.refl w7).alloc (.cells #[.int .i64 m, .bool true] 43)
                  have HSa := HS7.out.extend hxa
                  have hgrow : (w7.alloc (.cells #[.int .i64 m, .bool true] 43)).grownBy w8 (Value.slice oR regs.length cR).ownBlock := hgrow
                  have hlen : (regs ++ [(⟨m, true⟩ : LReg)]).length = regs.length + 1 := by simp
                  have HS8 : Hid (TSt w1 (w8.setCell ⟨go, 0, none⟩ (.slice oR2 (regs.length + 1) cR2)) w1.heap.size go 25 (.slice oR2 (regs.length + 1) cR2) (.slice oC code.length cC) (regs ++ [⟨m, true⟩]) code) := Lib.hid (HSa.regs_ hgrow (by rw [hlen, List.flatMap_append]; simpa using hown) (fun r hr => by rcases List.mem_append.1 hr with h | h; exact HS7.out.fr r h; rw [List.mem_singleton.1 h]; exact Hm.out))
                  have hb8 := HSa.box.grown hgrow (own_ne HSa.rg HSa.box (by decide))
                  have p0 : w8.cell? ⟨go, 0, none⟩ = some (.slice oR regs.length cR) ∧ w8.frozen? ⟨go, 0, none⟩ = false := ⟨by rw [hb8.cell]; rfl, hb8.frozen _⟩
                  have hgo8 := hb8.lt
                  have hrc2 : (regs ++ [(⟨m, true⟩ : LReg)]).length + code.length ≤ k + 1 := by rw [hlen]; omega
                  clear hown hgrow hxa HSa hb8 hlen hgol
                  go_wp2
                  go_roundw
                  case rel => exact ⟨k + 1, _, _, regs ++ [⟨m, true⟩], code, by go_num, by omega, hrc2, HS8.out, HN.out⟩
                  case measure => first | (simp [intOf]; done) | (simp [intOf]; omega)
              case neg =>
                have qn : (x2 != [115, 101, 99, 114, 101, 116]) = true := by simpa [secretW] using hq
                have HN : Hid (parseT s = (⟨[], []⟩, 2, (k : Int))) := Lib.hid (by rw [Hst.out, if_pos (.inr (.inr ⟨hp, hq⟩))])
                have hpl : ¬ x2 = [112, 117, 98, 108, 105, 99] := hp
                have hql : ¬ x2 = [115, 101, 99, 114, 101, 116] := hq
                have qpe : (x2 == [112, 117, 98, 108, 105, 99]) = false := by simpa using hpl
                have qse : (x2 == [115, 101, 99, 114, 101, 116]) = false := by simpa using hql
                clear hp hq qp qn
                have bR := BR1.out.ext HS5.out.ext
                have bF := BF1.out.ext HS5.out.ext
                have r0 := (⟨by rw [bR.cell]; rfl, bR.frozen _⟩ : w5.cell? ⟨g, 0, none⟩ = some (.slice none 0 0) ∧ w5.frozen? ⟨g, 0, none⟩ = false)
                have r1 := (⟨by rw [bR.cell]; rfl, bR.frozen _⟩ : w5.cell? ⟨g, 1, none⟩ = some (.slice none 0 0) ∧ w5.frozen? ⟨g, 1, none⟩ = false)
                have f0 := (⟨by rw [bF.cell]; rfl, bF.frozen _⟩ : w5.cell? ⟨g + 1, 0, none⟩ = some (.int .i64 0) ∧ w5.frozen? ⟨g + 1, 0, none⟩ = false)
                have f1 := (⟨by rw [bF.cell]; rfl, bF.frozen _⟩ : w5.cell? ⟨g + 1, 1, none⟩ = some (.int .i64 0) ∧ w5.frozen? ⟨g + 1, 1, none⟩ = false)
                have HB := Lib.hid (And.intro bR bF)
                have hgl := bF.lt
                have hgl0 := bR.lt
                clear bR bF
                go_wp2
                refine bodyPost_ret (results_cc (put4_t HB.out.1 HB.out.2).1 (put4_t HB.out.1 HB.out.2).2 rfl _ rfl rfl Tryd.underlying25 rfl infoProgT Tryd.underlying32 rfl infoFaultT) rfl ?_
                exact ParsePost.no HN.out (ext4_t (X1.out.trans HS5.out.ext) Hg.out)
end Go.Proofs.YtkkekbnhndfhjaaDoor
