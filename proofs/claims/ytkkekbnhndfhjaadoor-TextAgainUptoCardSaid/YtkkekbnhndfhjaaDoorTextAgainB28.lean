/- Laid together from: Txh, Txi, Txj, Txk. -/
import Derived.Test.YtkkekbnhndfhjaaDoorTextAgainB27
import Derived.Test.YtkkekbnhndfhjaaDoorTextAgainB25
import Derived.Test.YtkkekbnhndfhjaaDoorTextAgainB22
import Derived.Test.YtkkekbnhndfhjaaDoorTextAgainB20
import Derived.Test.YtkkekbnhndfhjaaDoorTextAgainB13

namespace Go.Proofs.YtkkekbnhndfhjaaDoor
open Go.ChangeShapes Go.WideShapes Go.ChangeAt Go.RowKit
set_option linter.unusedVariables false
set_option linter.unusedSimpArgs false
theorem part_le (c : UInt8) : ∀ (s x : List UInt8), x ∈ splitT c s → x.length ≤ s.length
  | [], x, h => by
    simp only [splitT, List.mem_singleton] at h
    subst h
    simp
  | b :: l, x, h => by
    unfold splitT at h
    split at h
    · rcases List.mem_cons.1 h with rfl | h
      · simp
      · have := part_le c l x h
        simp; omega
    · rcases List.mem_cons.1 h with rfl | h
      · have hne := split_ne c l
        cases hs : splitT c l with
        | nil => exact absurd hs hne
        | cons y r =>
          have := part_le c l y (by rw [hs]; simp)
          simp; omega
      · have := part_le c l x (List.mem_of_mem_tail h)
        simp; omega
def lineW (p : LProg) (ws : List (List UInt8)) : Option LProg :=
  if ws.getD 0 [] = regionW then
    if ws.length ≠ 3 ∨ 0 < p.code.length ∨ (ws.getD 2 [] ≠ publicW ∧ ws.getD 2 [] ≠ secretW) then none
    else (numT (ws.getD 1 []) 18).map fun n => ⟨p.regs ++ [⟨n, decide (ws.getD 2 [] = secretW)⟩], p.code⟩
  else (readT ws).map fun i => ⟨p.regs, p.code ++ [i]⟩
theorem go_at {L : List (List UInt8)} {k : Nat} (p : LProg) (h : k + 1 < L.length) : parseGo (L.drop k) k p = match lineP p (L.getD k []) with
    | none => (⟨[], []⟩, 2, (k : Int))
    | some q => parseGo (L.drop (k + 1)) (k + 1) q := by
  rw [List.drop_eq_getElem_cons (by omega : k < L.length)]
  have hne : L.drop (k + 1) ≠ [] := by
    intro e
    have := congrArg List.length e
    rw [List.length_drop, List.length_nil] at this
    omega
  have hg : L.getD k [] = L[k] := by rw [List.getD_eq_getElem?_getD, List.getElem?_eq_getElem]; rfl
  rw [hg]
  show (if L.drop (k + 1) = [] then _ else _) = _
  rw [if_neg hne]
  cases lineP p L[k] <;> rfl
theorem go_end {L : List (List UInt8)} {k : Nat} (p : LProg) (h : L.length = k + 1) : parseGo (L.drop k) k p = if L.getD k [] = [] ∧ hardOk p = true then (p, 0, 0) else (⟨[], []⟩, 2, (k : Int)) := by
  rw [List.drop_eq_getElem_cons (by omega : k < L.length)]
  have he : L.drop (k + 1) = [] := List.drop_eq_nil_of_le (by omega)
  have hg : L.getD k [] = L[k] := by rw [List.getD_eq_getElem?_getD, List.getElem?_eq_getElem]; rfl
  rw [hg, he]
  show (if ([] : List (List UInt8)) = [] then _ else _) = _
  rw [if_pos rfl]
theorem getD_in {L : List (List UInt8)} {k : Nat} (h : k < L.length) : L.getD k [] ∈ L := by
  rw [List.getD_eq_getElem?_getD, List.getElem?_eq_getElem h]
  exact List.getElem_mem h
def ParsePost (s : List UInt8) (w : World) (e : Ending) (w' : World) : Prop :=
  ∃ u, e = .returned (.tuple #[u, .agg #[.int .i64 (parseT s).2.1, .int .i64 (parseT s).2.2]]) ∧ ProgAt w' u (parseT s).1 ∧ (∀ i ∈ (parseT s).1.code, i.fits) ∧ Ext w w'
theorem nil_prog (w : World) : ProgAt w (.agg #[.slice none 0 0, .slice none 0 0]) ⟨[], []⟩ :=
  ⟨_, _, rfl, regs_own (base := 0) (e := 0) (World.ownsRow_nil _ _ _ _) (by simp), code_own (base := 0) (e := 0) (World.ownsRow_nil _ _ _ _) (by simp)⟩
theorem ParsePost.no {s : List UInt8} {w w' : World} {k : Nat} (h : parseT s = (⟨[], []⟩, 2, (k : Int))) (hx : Ext w w') : ParsePost s w (.returned (.tuple #[.agg #[.slice none 0 0, .slice none 0 0], .agg #[.int .i64 2, .int .i64 (k : Int)]])) w' := by
  refine ⟨_, by rw [h], ?_, ?_, hx⟩
  · rw [h]; exact nil_prog _
  · rw [h]; simp
theorem ParsePost.yes {s : List UInt8} {w w' : World} {u : Value} {p : LProg} (h : parseT s = (p, 0, 0)) (hu : ProgAt w' u p) (hf : ∀ i ∈ p.code, i.fits) (hx : Ext w w') : ParsePost s w (.returned (.tuple #[u, .agg #[.int .i64 0, .int .i64 0]])) w' := by
  refine ⟨u, by rw [h], ?_, ?_, hx⟩
  · rw [h]; exact hu
  · rw [h]; exact hf
theorem put_prog {w0 w : World} {B g go T : Nat} {vR vC a b c d z u : Value} {regs : List LReg} {code : List LIns} (h : TSt w0 w B go T vR vC regs code) (hA : Blk w g 25 #[a, b]) (hB : Blk w (g + 1) 32 #[c, d]) :
    ProgAt ((((w.setCell ⟨g, 0, none⟩ vR).setCell ⟨g, 1, none⟩ vC).setCell ⟨g + 1, 0, none⟩ z).setCell ⟨g + 1, 1, none⟩ u) (.agg #[vR, vC]) ⟨regs, code⟩ :=
  ⟨_, _, rfl, regs_own (own4_t h.rg hA hB (by decide) (by decide)) h.fr, code_own (own4_t h.cd hA hB (by decide) (by decide)) h.fc⟩
def kd (x : UInt8) : UInt8 := if x = 68 then 103 else if x = 78 then 110 else 114
def fd (x : UInt8) : UInt8 := if x = 68 then 67 else x
theorem shapeT_all : ∀ x ∈ allO, (shapeT (wordT x.1 x.2)).1.op = x.1 ∧ (shapeT (wordT x.1 x.2)).1.c = x.2 ∧ (shapeT (wordT x.1 x.2)).1.kinds = (followT x.1).map kd ∧ (shapeT (wordT x.1 x.2)).1.fields = (followT x.1).map fd ∧ (shapeT (wordT x.1 x.2)).2 = true := by decide +kernel
theorem idx_in {L : List (List UInt8)} {x : List UInt8} (h : idxW L x ≠ 0) : x ∈ L := by
  apply Classical.byContradiction
  intro hn
  apply h
  refine idx_none L x fun j hj e => hn ?_
  rw [← e, List.getD_eq_getElem?_getD, List.getElem?_eq_getElem hj]
  exact List.getElem_mem hj
theorem words_op : ∀ x ∈ opsW ++ condsW ++ [[115, 101, 116], [109, 111, 118, 101], [112, 108, 117, 115], [108, 111, 97, 100], [112, 117, 116], [108, 111, 97, 100, 107], [112, 117, 116, 107], [106, 117, 109, 112], [104, 97, 108, 116], [109, 97, 115, 107], [102, 101, 110, 99, 101]], (opT x).isSome = true := by decide +kernel
theorem shapeT_none {x : List UInt8} (h : opT x = none) : (shapeT x).2 = false := by
  have key : ∀ y ∈ opsW ++ condsW ++ [[115, 101, 116], [109, 111, 118, 101], [112, 108, 117, 115], [108, 111, 97, 100], [112, 117, 116], [108, 111, 97, 100, 107], [112, 117, 116, 107], [106, 117, 109, 112], [104, 97, 108, 116], [109, 97, 115, 107], [102, 101, 110, 99, 101]], x ≠ y := by
    intro y hy e
    have := words_op y hy
    rw [← e, h] at this
    exact Bool.noConfusion this
  have h1 : idxW opsW x = 0 := Classical.byContradiction fun hn => key x (List.mem_append_left _ (List.mem_append_left _ (idx_in hn))) rfl
  have h2 : idxW condsW x = 0 := Classical.byContradiction fun hn => key x (List.mem_append_left _ (List.mem_append_right _ (idx_in hn))) rfl
  unfold shapeT
  rw [if_neg (by rw [h1]; simp), if_neg (by rw [h2]; simp), if_neg (key _ (by decide)), if_neg (key _ (by decide)), if_neg (key _ (by decide)), if_neg (key _ (by decide)), if_neg (key _ (by decide)), if_neg (key _ (by decide)), if_neg (key _ (by decide)), if_neg (key _ (by decide)), if_neg (key _ (by decide)), if_neg (key _ (by decide)), if_neg (key _ (by decide))]
theorem shapeT_some {x : List UInt8} {o c : Int} (h : opT x = some (o, c)) : (shapeT x).1.op = o ∧ (shapeT x).1.c = c ∧ (shapeT x).1.kinds = (followT o).map kd ∧ (shapeT x).1.fields = (followT o).map fd ∧ (shapeT x).2 = true := by
  obtain ⟨hm, hw⟩ := op_mem h
  have := shapeT_all _ hm
  rw [hw] at this
  exact this
theorem number18 (s : List UInt8) (hs : s.length ≤ 1000000000) (w : World) (ht : Tab9 w) : Calls Tryd.prog 36 #[str s, .int .i64 18] w (NumPost s 18 w) := number_c s 18 (by omega) hs w ht
theorem number19 (s : List UInt8) (hs : s.length ≤ 1000000000) (w : World) (ht : Tab9 w) : Calls Tryd.prog 36 #[str s, .int .i64 19] w (NumPost s 19 w) := number_c s 19 (by omega) hs w ht
theorem cells4 {W : World} {g T : Nat} {a b c d : Value} (h : Blk W g T #[a, b, c, d]) : (W.cell? ⟨g, 0, none⟩ = some a ∧ W.frozen? ⟨g, 0, none⟩ = false) ∧ (W.cell? ⟨g, 1, none⟩ = some b ∧ W.frozen? ⟨g, 1, none⟩ = false) ∧ (W.cell? ⟨g, 2, none⟩ = some c ∧ W.frozen? ⟨g, 2, none⟩ = false) ∧ (W.cell? ⟨g, 3, none⟩ = some d ∧ W.frozen? ⟨g, 3, none⟩ = false) :=
  ⟨⟨by rw [h.cell]; rfl, h.frozen _⟩, ⟨by rw [h.cell]; rfl, h.frozen _⟩, ⟨by rw [h.cell]; rfl, h.frozen _⟩, ⟨by rw [h.cell]; rfl, h.frozen _⟩⟩
def InsPost (ws : List (List UInt8)) (w0 : World) (B g : Nat) (vR vC : Value) (regs : List LReg) (code : List LIns) (e : Ending) (w' : World) : Prop :=
  ∃ b, e = .returned (.bool b) ∧ ((b = true ∧ ∃ i vC', readT ws = some i ∧ TSt w0 w' B g 50 vR vC' regs (code ++ [i])) ∨ (b = false ∧ readT ws = none ∧ TSt w0 w' B g 50 vR vC regs code))
theorem InsPost.no {ws : List (List UInt8)} {w0 w' : World} {B g : Nat} {vR vC : Value} {regs : List LReg} {code : List LIns} (h : readT ws = none) (hS : TSt w0 w' B g 50 vR vC regs code) : InsPost ws w0 B g vR vC regs code (.returned (.bool false)) w' := ⟨false, rfl, .inr ⟨rfl, h, hS⟩⟩
theorem InsPost.yes {ws : List (List UInt8)} {w0 w' : World} {B g : Nat} {vR vC vC' : Value} {regs : List LReg} {code : List LIns} {i : LIns} (h : readT ws = some i) (hS : TSt w0 w' B g 50 vR vC' regs (code ++ [i])) : InsPost ws w0 B g vR vC regs code (.returned (.bool true)) w' := ⟨true, rfl, .inl ⟨rfl, i, vC', h, hS⟩⟩
set_option maxRecDepth 100000 in
set_option maxHeartbeats 16000000 in
theorem ins_c9 (ws : List (List UInt8)) (v : Value) (w0 w : World) (B g : Nat) (vR vC : Value) (regs : List LReg) (code : List LIns) (hS : TSt w0 w B g 50 vR vC regs code) (hcl : code.length ≤ 1000000000) (ht : Tab9 w) (hv : StrsAt w v ws) (h1 : 1 ≤ ws.length) (hw : ∀ x ∈ ws, x.length ≤ 1000000000) :
    Calls Tryd.prog 35 #[.pointer (some ⟨g, 0, none⟩), v] w (InsPost ws w0 B g vR vC regs code) := by
  obtain ⟨j0, hj0, hy0, hy1, hy2⟩ := info_parts infoInsT
  obtain ⟨kk, cap, rfl, hcap, hcm, hkk, hcell⟩ := hv
  have HSt := Lib.hid hS
  have Ht := Lib.hid ht
  have Hcell := Lib.hid fun W (X : Ext w W) j hj => X.kept (hcell j hj)
  have Hw := Lib.hid hw
  obtain ⟨x0, hx0⟩ : ∃ x, ws.getD 0 [] = x := ⟨_, rfl⟩
  have Hc0 := Lib.hid fun W (X : Ext w W) => X.kept (hcell 0 (by omega))
  rw [hx0] at Hc0
  have Hx0 := Lib.hid hx0
  obtain ⟨m, hm⟩ : ∃ m, ws.length = m + 1 := ⟨ws.length - 1, by omega⟩
  have Hm := Lib.hid hm
  have hm9 : m ≤ 9223372036854775806 := by unfold maxLen at hcm; omega
  have hcap1 : m ≤ cap - 1 := by omega
  have Hcm := Lib.hid hcm
  have hwe : wrap64 (((m + 1 : Nat) : Int) - 1) = (m : Int) := by unfold wrap64; omega
  have hwe2 : wrap64 (m : Int) = (m : Int) := by unfold wrap64; omega
  have hix := index_strs (oa := some ⟨kk, 0, none⟩) (n := m + 1) (b := kk) (o := 0) (cap := cap) (fun _ => rfl)
  have hix1 := index_strs (oa := some ⟨kk, 1, none⟩) (n := m) (b := kk) (o := 1) (cap := cap - 1) (fun _ => rfl)
  have Hm9 := Lib.hid hm9
  rw [hm]
  obtain ⟨oR, cR, rfl⟩ := own_slice hS.rg
  obtain ⟨oC, cC, rfl⟩ := own_slice hS.cd
  have HSh : Hid (Calls Tryd.prog 44 #[str x0] w fun e w' => e = .returned (.tuple #[shapeV (shapeT x0).1, .bool (shapeT x0).2]) ∧ Ext w w') := Lib.hid (shapes_c x0 w ht.tabs)
  have Hnone := Lib.hid (fun h : opT x0 = none => shapeT_none h)
  have Hsome := Lib.hid (fun o c (h : opT x0 = some (o, c)) => shapeT_some h)
  generalize shapeT x0 = S at *
  obtain ⟨⟨so, sc, sK, sF⟩, sb⟩ := S
  simp only at HSh Hnone Hsome
  clear hx0 hcell hw h1 hm hcap hcm hm9 ht hS
  go_enter Tryd.func35, Tryd.ntmps35
  have k0 := Hc0.out w (Ext.refl w)
  go_wp2_with fail
  (with_reducible refine (HSh.out).mono ?_)
  rintro e w1 ⟨rfl, hx⟩
  have X1 := Lib.hid hx
  clear hx k0 HSh
  go_upto_region 2 with fail
  obtain ⟨W, gs, hgs, hW, hx, bS⟩ := block1 w1 #[.int .i64 so, .int .i64 sc, str sK, str sF] 80
  rw [hW, hgs]
  have X := Lib.hid (X1.out.trans hx)
  have BS := Lib.hid bS
  obtain ⟨s0, s1, s2, s3⟩ := cells4 bS
  have hgsl := bS.lt
  have hszK := str_size sK
  clear hW hgs hx bS X1
  cases ho : opT x0 with
  | none =>
    obtain rfl : sb = false := Hnone.out ho
    have HN : Hid (readT ws = none) := Lib.hid (by unfold readT; rw [Hx0.out, ho])
    clear ho
    go_wp2
    go_ret
    exact InsPost.no HN.out (HSt.out.extend X.out)
  | some oc =>
    obtain ⟨o, c⟩ := oc
    obtain ⟨rfl, rfl, hK, hF, rfl⟩ := Hsome.out o c ho
    obtain ⟨hmem, hne, hoi, hR⟩ := op_some (ws := ws) (by rw [Hx0.out]; exact ho)
    have HR := Lib.hid hR
    have Hz := Lib.hid (zero_fits so sc hmem)
    obtain ⟨hFl, hFx⟩ := follow_ok so
    have HFx := Lib.hid hFx
    generalize followT so = F at *
    have hKl : sK.length = F.length := by rw [hK]; simp
    have HKx : Hid (∀ (k : Nat) (x : UInt8), F[k]? = some x → sK[k]? = some (kd x) ∧ sF[k]? = some (fd x)) := Lib.hid (fun k x h => ⟨by rw [hK, List.getElem?_map, h]; rfl, by rw [hF, List.getElem?_map, h]; rfl⟩)
    clear hK hF hmem hne hoi hR hFx ho Hnone Hsome
    by_cases hl : m = F.length
    case neg =>
      have HN : Hid (readT ws = none) := Lib.hid (by rw [HR.out, if_neg (by have := Hm.out; omega)])
      have hlb : ((m : Int) != (sK.length : Int)) = true := by simpa using (show ¬ (m : Int) = (sK.length : Int) by omega)
      clear hl hKl hFl
      go_wp2
      go_ret
      exact InsPost.no HN.out (HSt.out.extend X.out)
    case pos =>
      have HRr : Hid (readA (F.drop 0) (ws.drop (0 + 1)) ⟨so, 0, 0, sc, 0⟩ = readT ws) := Lib.hid (by rw [HR.out, if_pos (by have := Hm.out; omega)]; rfl)
      have hlb : ((m : Int) != (sK.length : Int)) = false := by simpa using (show (m : Int) = (sK.length : Int) by omega)
      have hm4 : m ≤ 4 := by omega
      have Hl := Lib.hid hl
      clear hl hKl hFl HR
      go_upto_region 5 with fail
      obtain ⟨W2, gi, hgi, hW, hx, bI⟩ := block1 W #[.int .i64 so, .int .i64 0, .int .i64 0, .int .i64 sc, .int .i64 0] 46
      rw [hW, hgi]
      have X2 := Lib.hid (X.out.trans hx)
      have Hgi : Hid (w.heap.size ≤ gi) := Lib.hid (by have := X.out.size; omega)
      have hgn : gs ≠ gi := by omega
      have BS2 := Lib.hid (BS.out.ext hx)
      have BI := Lib.hid bI
      clear hW hgi hx bI BS X s0 s1 s2 s3 hgsl
      by_cases hcap0 : cap = 1
      case pos =>
        go_wp2_with fail
        try simp only [hwe, hwe2]
        go_loopw [39] (fun kv wr => ∃ (k : Nat) (i : LIns), k ≤ m ∧ kv = .int .i64 k ∧ Blk wr gs 80 #[.int .i64 so, .int .i64 sc, str sK, str sF] ∧ Blk wr gi 46 (insTV i) ∧ i.fits ∧ Ext w wr ∧ readA (F.drop k) (ws.drop (k + 1)) i = readT ws) (fun kv _ => m - (intOf kv).toNat)
        case atStart => exact ⟨0, ⟨so, 0, 0, sc, 0⟩, by omega, rfl, BS2.out, BI.out, Hz.out, X2.out, HRr.out⟩
        case round =>
          obtain ⟨k, i, hk, rfl, bS, bI, hfi, hE, hR⟩ := hrel
          have X := Lib.hid hE
          have HR := Lib.hid hR
          have Hfi := Lib.hid hfi
          have BS := Lib.hid bS
          have BI := Lib.hid bI
          have hgsl := bS.lt
          have hgil := bI.lt
          have hkl := Nat.lt_of_lt_of_le hkk hE.size
          obtain ⟨s0, s1, s2, s3⟩ := cells4 bS
          obtain ⟨c0, c1, c2, c3, c4⟩ := cells5 bI
          obtain ⟨io, ia, ib, ic, inn⟩ := i
          simp only at c0 c1 c2 c3 c4
          clear hE hR hfi bS bI
          by_cases hlt : k < m
          case pos => exact absurd hlt (by omega)
          case neg =>
            obtain rfl : k = m := by omega
            have HN : Hid (readT ws = some ⟨io, ia, ib, ic, inn⟩) := Lib.hid (by rw [← HR.out, Hl.out, List.drop_length]; rfl)
            have HSr := Lib.hid (HSt.out.extend X.out)
            obtain ⟨d0, d1⟩ := HSr.out.cells
            have hgl := HSr.out.box.lt
            have hBs := HSr.out.size
            go_upto_region 26 with fail
            have k1 : ∀ Wx, Ext wr Wx → Wx.cell? ⟨g, 1, none⟩ = some (.slice oC code.length cC) := fun _ h => h.kept d1.1
            have q0 : ∀ Wx, Ext wr Wx → Wx.cell? ⟨gi, 0, none⟩ = some (.int .i64 io) := fun _ h => h.kept c0.1
            have q1 : ∀ Wx, Ext wr Wx → Wx.cell? ⟨gi, 1, none⟩ = some (.int .i64 ia) := fun _ h => h.kept c1.1
            have q2 : ∀ Wx, Ext wr Wx → Wx.cell? ⟨gi, 2, none⟩ = some (.int .i64 ib) := fun _ h => h.kept c2.1
            have q3 : ∀ Wx, Ext wr Wx → Wx.cell? ⟨gi, 3, none⟩ = some (.int .i64 ic) := fun _ h => h.kept c3.1
            have q4 : ∀ Wx, Ext wr Wx → Wx.cell? ⟨gi, 4, none⟩ = some (.int .i64 inn) := fun _ h => h.kept c4.1
            clear d0 d1 s0 s1 s2 s3 c0 c1 c2 c3 c4
            refine region_float [7, 8, 9, 10, 11, 12] 1 (by kernel_rfl) (by kernel_rfl) ?_
            repeat (first | (refine cw_heavy ?_ ?_; (decide)) | (refine cw_value ?_ ?_ ?_; (decide); (first | rfl | (focus (go_simp; done))); apply Exists.intro; refine ⟨fun wc hE => ?_, ?_⟩; (go_simp; exact rfl); go_simp) | (refine cw_skip ?_ ?_ ?_; (decide); (focus (go_simp; done)); go_simp))
            refine cw_nil ?_
            intro w3 hx
            have HS3 := Lib.hid (HSr.out.extend hx)
            have HX := Lib.hid hx
            have hBs3 := HS3.out.size
            clear k1 q0 q1 q2 q3 q4 hx hBs
            refine wpF_soft rfl ?_
            go_wp2
            refine ⟨HX.out.alloc _, ?_⟩
            refine wpF_hard (heavies_cons rfl (heavies_cons rfl (heavies_cons rfl (heavies_cons rfl (heavies_cons rfl (heavies_nil)))))) ?_
            refine wpList_append_src _ rfl _ _ 23 rfl B 46 j0 _ 5 40 Tryd.underlying23 hj0 hy0 hy1 hy2 rfl (by decide) _ _ _ rfl (own_alloc HS3.out.cd) (some ⟨w3.heap.size, 0, none⟩) 1 1 (insCells ⟨io, ia, ib, ic, inn⟩) rfl ?c1 ?c3 ?c4 ?c5 ?_
            case c1 => exact src_new (size := 5) (Blk.new w3 46 #[.int .i64 io, .int .i64 ia, .int .i64 ib, .int .i64 ic, .int .i64 inn]) rfl (by simp [Value.oneCell'])
            case c3 => unfold maxLen; omega
            case c4 => omega
            case c5 => simp; omega
            intro vC' w7 hown hgrow hat2
            clear hat2
            obtain ⟨oC2, cC2, rfl⟩ := own_slice hown
            have hxa := (Ext.refl w3).alloc (.cells #[.int .i64 io, .int .i64 ia, .int .i64 ib, .int .i64 ic, .int .i64 inn] 46)
            have HSa := HS3.out.extend hxa
            have hgrow : (w3.alloc (.cells #[.int .i64 io, .int .i64 ia, .int .i64 ib, .int .i64 ic, .int .i64 inn] 46)).grownBy w7 (Value.slice oC code.length cC).ownBlock := hgrow
            have hlen : (code ++ ([⟨io, ia, ib, ic, inn⟩] : List LIns)).length = code.length + 1 := by simp
            have HS7 : Hid (TSt w0 (w7.setCell ⟨g, 1, none⟩ (.slice oC2 (code.length + 1) cC2)) B g 50 (.slice oR regs.length cR) (.slice oC2 (code.length + 1) cC2) regs (code ++ [⟨io, ia, ib, ic, inn⟩])) := Lib.hid (HSa.code_ hgrow (by rw [hlen, List.flatMap_append]; simpa using hown) (fun i hi => by rcases List.mem_append.1 hi with h | h; exact HSt.out.fc i h; rw [List.mem_singleton.1 h]; exact Hfi.out))
            have hb7 := HSa.box.grown hgrow (own_ne HSa.cd HSa.box HSa.ni)
            have p1 : w7.cell? ⟨g, 1, none⟩ = some (.slice oC code.length cC) ∧ w7.frozen? ⟨g, 1, none⟩ = false := ⟨by rw [hb7.cell]; rfl, hb7.frozen _⟩
            have hgl7 := hb7.lt
            clear hown hgrow hxa HSa hb7 hlen hgl hgsl hgil hkl hBs3
            go_wp2
            go_ret
            exact InsPost.yes HN.out HS7.out
      case neg =>
        go_wp2_with fail
        try simp only [hwe, hwe2]
        go_loopw [39] (fun kv wr => ∃ (k : Nat) (i : LIns), k ≤ m ∧ kv = .int .i64 k ∧ Blk wr gs 80 #[.int .i64 so, .int .i64 sc, str sK, str sF] ∧ Blk wr gi 46 (insTV i) ∧ i.fits ∧ Ext w wr ∧ readA (F.drop k) (ws.drop (k + 1)) i = readT ws) (fun kv _ => m - (intOf kv).toNat)
        case atStart => exact ⟨0, ⟨so, 0, 0, sc, 0⟩, by omega, rfl, BS2.out, BI.out, Hz.out, X2.out, HRr.out⟩
        case round =>
          obtain ⟨k, i, hk, rfl, bS, bI, hfi, hE, hR⟩ := hrel
          have X := Lib.hid hE
          have HR := Lib.hid hR
          have Hfi := Lib.hid hfi
          have BS := Lib.hid bS
          have BI := Lib.hid bI
          have hgsl := bS.lt
          have hgil := bI.lt
          have hkl := Nat.lt_of_lt_of_le hkk hE.size
          obtain ⟨s0, s1, s2, s3⟩ := cells4 bS
          obtain ⟨c0, c1, c2, c3, c4⟩ := cells5 bI
          obtain ⟨io, ia, ib, ic, inn⟩ := i
          simp only at c0 c1 c2 c3 c4
          clear hE hR hfi bS bI
          by_cases hlt : k < m
          case neg =>
            obtain rfl : k = m := by omega
            have HN : Hid (readT ws = some ⟨io, ia, ib, ic, inn⟩) := Lib.hid (by rw [← HR.out, Hl.out, List.drop_length]; rfl)
            have HSr := Lib.hid (HSt.out.extend X.out)
            obtain ⟨d0, d1⟩ := HSr.out.cells
            have hgl := HSr.out.box.lt
            have hBs := HSr.out.size
            go_upto_region 26 with fail
            have k1 : ∀ Wx, Ext wr Wx → Wx.cell? ⟨g, 1, none⟩ = some (.slice oC code.length cC) := fun _ h => h.kept d1.1
            have q0 : ∀ Wx, Ext wr Wx → Wx.cell? ⟨gi, 0, none⟩ = some (.int .i64 io) := fun _ h => h.kept c0.1
            have q1 : ∀ Wx, Ext wr Wx → Wx.cell? ⟨gi, 1, none⟩ = some (.int .i64 ia) := fun _ h => h.kept c1.1
            have q2 : ∀ Wx, Ext wr Wx → Wx.cell? ⟨gi, 2, none⟩ = some (.int .i64 ib) := fun _ h => h.kept c2.1
            have q3 : ∀ Wx, Ext wr Wx → Wx.cell? ⟨gi, 3, none⟩ = some (.int .i64 ic) := fun _ h => h.kept c3.1
            have q4 : ∀ Wx, Ext wr Wx → Wx.cell? ⟨gi, 4, none⟩ = some (.int .i64 inn) := fun _ h => h.kept c4.1
            clear d0 d1 s0 s1 s2 s3 c0 c1 c2 c3 c4
            refine region_float [7, 8, 9, 10, 11, 12] 1 (by kernel_rfl) (by kernel_rfl) ?_
            repeat (first | (refine cw_heavy ?_ ?_; (decide)) | (refine cw_value ?_ ?_ ?_; (decide); (first | rfl | (focus (go_simp; done))); apply Exists.intro; refine ⟨fun wc hE => ?_, ?_⟩; (go_simp; exact rfl); go_simp) | (refine cw_skip ?_ ?_ ?_; (decide); (focus (go_simp; done)); go_simp))
            refine cw_nil ?_
            intro w3 hx
            have HS3 := Lib.hid (HSr.out.extend hx)
            have HX := Lib.hid hx
            have hBs3 := HS3.out.size
            clear k1 q0 q1 q2 q3 q4 hx hBs
            refine wpF_soft rfl ?_
            go_wp2
            refine ⟨HX.out.alloc _, ?_⟩
            refine wpF_hard (heavies_cons rfl (heavies_cons rfl (heavies_cons rfl (heavies_cons rfl (heavies_cons rfl (heavies_nil)))))) ?_
            refine wpList_append_src _ rfl _ _ 23 rfl B 46 j0 _ 5 40 Tryd.underlying23 hj0 hy0 hy1 hy2 rfl (by decide) _ _ _ rfl (own_alloc HS3.out.cd) (some ⟨w3.heap.size, 0, none⟩) 1 1 (insCells ⟨io, ia, ib, ic, inn⟩) rfl ?c1 ?c3 ?c4 ?c5 ?_
            case c1 => exact src_new (size := 5) (Blk.new w3 46 #[.int .i64 io, .int .i64 ia, .int .i64 ib, .int .i64 ic, .int .i64 inn]) rfl (by simp [Value.oneCell'])
            case c3 => unfold maxLen; omega
            case c4 => omega
            case c5 => simp; omega
            intro vC' w7 hown hgrow hat2
            clear hat2
            obtain ⟨oC2, cC2, rfl⟩ := own_slice hown
            have hxa := (Ext.refl w3).alloc (.cells #[.int .i64 io, .int .i64 ia, .int .i64 ib, .int .i64 ic, .int .i64 inn] 46)
            have HSa := HS3.out.extend hxa
            have hgrow : (w3.alloc (.cells #[.int .i64 io, .int .i64 ia, .int .i64 ib, .int .i64 ic, .int .i64 inn] 46)).grownBy w7 (Value.slice oC code.length cC).ownBlock := hgrow
            have hlen : (code ++ ([⟨io, ia, ib, ic, inn⟩] : List LIns)).length = code.length + 1 := by simp
            have HS7 : Hid (TSt w0 (w7.setCell ⟨g, 1, none⟩ (.slice oC2 (code.length + 1) cC2)) B g 50 (.slice oR regs.length cR) (.slice oC2 (code.length + 1) cC2) regs (code ++ [⟨io, ia, ib, ic, inn⟩])) := Lib.hid (HSa.code_ hgrow (by rw [hlen, List.flatMap_append]; simpa using hown) (fun i hi => by rcases List.mem_append.1 hi with h | h; exact HSt.out.fc i h; rw [List.mem_singleton.1 h]; exact Hfi.out))
            have hb7 := HSa.box.grown hgrow (own_ne HSa.cd HSa.box HSa.ni)
            have p1 : w7.cell? ⟨g, 1, none⟩ = some (.slice oC code.length cC) ∧ w7.frozen? ⟨g, 1, none⟩ = false := ⟨by rw [hb7.cell]; rfl, hb7.frozen _⟩
            have hgl7 := hb7.lt
            clear hown hgrow hxa HSa hb7 hlen hgl hgsl hgil hkl hBs3
            go_wp2
            go_ret
            exact InsPost.yes HN.out HS7.out
          case pos =>
            have hws : k + 1 < ws.length := by have := Hm.out; omega
            have hkF : k < F.length := by have := Hl.out; omega
            have hFk : F[k]? = some F[k] := by simp [hkF]
            have hlet : Letter F[k] := HFx.out _ (List.getElem_mem hkF)
            have hKk := HKx.out k F[k] hFk
            have HS := Lib.hid (readA_step (i := ⟨io, ia, ib, ic, inn⟩) hFk (show ws[k + 1]? = some (ws.getD (k + 1) []) by simp [hws]))
            rw [HR.out] at HS
            clear HR hFk
            have hc1 := Hcell.out wr X.out (k + 1) hws
            have hWl : (ws.getD (k + 1) []).length ≤ 1000000000 := Hw.out _ (getD_in hws)
            have hin : (k : Int) < (m : Int) := by omega
            clear hws
            generalize F[k] = x at *
            generalize ws.getD (k + 1) [] = U at *
            rw [Nat.add_comm k 1] at hc1
            clear hkF
            rcases hlet with rfl | rfl | rfl | rfl | rfl
            case inl =>
              have hixK := str_index sK k 114 hKk.1
              have hixF := str_index sF k 65 hKk.2
              clear hKk
              cases U with
              | nil =>
                have HN : Hid (readT ws = none) := Lib.hid (by rw [HS.out]; rfl)
                go_upto_region 11 with fail
                have s2c : ∀ Wx, Ext wr Wx → Wx.cell? ⟨gs, 2, none⟩ = some (str sK) := fun _ h => h.kept s2.1
                refine region_calm 11 (by kernel_rfl) (by kernel_rfl) ?_
                simp only [List.take_succ_cons, List.take_zero, List.drop_succ_cons, List.drop_zero]
                repeat (first | (refine calm_fresh ?_ ?_ (fun wc hE => ?_) ?_; (decide); rfl; (focus (go_simp; done)); go_simp) | (refine calm_value ?_ ?_ ?_; (decide); (first | rfl | (focus (go_simp; done))); apply Exists.intro; refine ⟨fun wc hE => ?_, ?_⟩; (go_simp; exact rfl); go_simp) | (refine calm_call ?_ ?_ ?_; (decide); (first | rfl | (focus (go_simp; done))); apply Exists.intro; refine ⟨fun wc hE => ?_, ?_⟩; (go_simp; (first | fail)); go_simp) | (refine calm_skip ?_ ?_ ?_; (decide); (focus (go_simp; done)); go_simp))
                refine calm_nil ?_
                intro wx hx
                have X := Lib.hid (X.out.trans hx)
                have BS := Lib.hid (BS.out.ext hx)
                have BI := Lib.hid (BI.out.ext hx)
                have hc1 := hx.kept hc1
                clear hx s2c s0 s1 s2 s3 c0 c1 c2 c3 c4 hgsl hgil hkl
                have hgsl := BS.out.lt
                have hgil := BI.out.lt
                have hkl := Nat.lt_of_lt_of_le hkk X.out.size
                obtain ⟨s0, s1, s2, s3⟩ := cells4 BS.out
                obtain ⟨c0, c1, c2, c3, c4⟩ := cells5 BI.out
                go_wp2
                go_ret
                exact InsPost.no HN.out (HSt.out.extend X.out)
              | cons b r =>
                have hsU := str_size (b :: r)
                have hixU : ∀ W, (Instr.index 9 (str (b :: r)) (.int .i64 0)).run Tryd.prog W = .ok (.int .u8 (b.toNat : Int)) W := fun W => by simpa using str_index (b :: r) 0 b rfl W
                have hU0 : ((b :: r) == []) = false := rfl
                have hU3 : ¬ (b :: r) = [] := by simp
                have hUl : (b :: r).length = r.length + 1 := rfl
                have htl := tail_str b r (b :: r).length rfl
                have hU1 : 1 ≤ (b :: r).length := by simp
                have hU2 : (1 : Int) ≤ ((b :: r).length : Int) := by simp; omega
                by_cases hbf : b = 114
                case neg =>
                  have hbn : ((b.toNat : Int) != 114) = true := by
                    have : ¬ b.toNat = 114 := fun e => hbf (UInt8.toNat_inj.1 e)
                    simpa using (show ¬ (b.toNat : Int) = 114 by omega)
                  have HN : Hid (readT ws = none) := Lib.hid (by rw [HS.out]; simp [argT, hbf])
                  generalize b.toNat = mm at *
                  clear htl hUl hbf
                  generalize (b :: r : List UInt8) = U at *
                  go_upto_region 11 with fail
                  have s2c : ∀ Wx, Ext wr Wx → Wx.cell? ⟨gs, 2, none⟩ = some (str sK) := fun _ h => h.kept s2.1
                  refine region_calm 11 (by kernel_rfl) (by kernel_rfl) ?_
                  simp only [List.take_succ_cons, List.take_zero, List.drop_succ_cons, List.drop_zero]
                  repeat (first | (refine calm_fresh ?_ ?_ (fun wc hE => ?_) ?_; (decide); rfl; (focus (go_simp; done)); go_simp) | (refine calm_value ?_ ?_ ?_; (decide); (first | rfl | (focus (go_simp; done))); apply Exists.intro; refine ⟨fun wc hE => ?_, ?_⟩; (go_simp; exact rfl); go_simp) | (refine calm_call ?_ ?_ ?_; (decide); (first | rfl | (focus (go_simp; done))); apply Exists.intro; refine ⟨fun wc hE => ?_, ?_⟩; (go_simp; (first | fail)); go_simp) | (refine calm_skip ?_ ?_ ?_; (decide); (focus (go_simp; done)); go_simp))
                  refine calm_nil ?_
                  intro wx hx
                  have X := Lib.hid (X.out.trans hx)
                  have BS := Lib.hid (BS.out.ext hx)
                  have BI := Lib.hid (BI.out.ext hx)
                  have hc1 := hx.kept hc1
                  clear hx s2c s0 s1 s2 s3 c0 c1 c2 c3 c4 hgsl hgil hkl
                  have hgsl := BS.out.lt
                  have hgil := BI.out.lt
                  have hkl := Nat.lt_of_lt_of_le hkk X.out.size
                  obtain ⟨s0, s1, s2, s3⟩ := cells4 BS.out
                  obtain ⟨c0, c1, c2, c3, c4⟩ := cells5 BI.out
                  go_wp2
                  go_ret
                  exact InsPost.no HN.out (HSt.out.extend X.out)
                case pos =>
                  subst hbf
                  have HA : Hid (argT 65 (114 :: r) = numT r 18) := Lib.hid (by simp [argT])
                  have hrl : r.length ≤ 1000000000 := by omega
                  clear hUl
                  generalize hUe : (114 :: r : List UInt8) = U at *
                  clear hUe
                  go_upto_region 11 with fail
                  have s2c : ∀ Wx, Ext wr Wx → Wx.cell? ⟨gs, 2, none⟩ = some (str sK) := fun _ h => h.kept s2.1
                  refine region_calm 11 (by kernel_rfl) (by kernel_rfl) ?_
                  simp only [List.take_succ_cons, List.take_zero, List.drop_succ_cons, List.drop_zero]
                  repeat (first | (refine calm_fresh ?_ ?_ (fun wc hE => ?_) ?_; (decide); rfl; (focus (go_simp; done)); go_simp) | (refine calm_value ?_ ?_ ?_; (decide); (first | rfl | (focus (go_simp; done))); apply Exists.intro; refine ⟨fun wc hE => ?_, ?_⟩; (go_simp; exact rfl); go_simp) | (refine calm_call ?_ ?_ ?_; (decide); (first | rfl | (focus (go_simp; done))); apply Exists.intro; refine ⟨fun wc hE => ?_, ?_⟩; (go_simp; (first | fail)); go_simp) | (refine calm_skip ?_ ?_ ?_; (decide); (focus (go_simp; done)); go_simp))
                  refine calm_nil ?_
                  intro wx hx
                  have X := Lib.hid (X.out.trans hx)
                  have BS := Lib.hid (BS.out.ext hx)
                  have BI := Lib.hid (BI.out.ext hx)
                  have hc1 := hx.kept hc1
                  clear hx s2c s0 s1 s2 s3 c0 c1 c2 c3 c4 hgsl hgil hkl
                  have hgsl := BS.out.lt
                  have hgil := BI.out.lt
                  have hkl := Nat.lt_of_lt_of_le hkk X.out.size
                  obtain ⟨s0, s1, s2, s3⟩ := cells4 BS.out
                  obtain ⟨c0, c1, c2, c3, c4⟩ := cells5 BI.out
                  go_wp2_with fail
                  (with_reducible refine (number18 r (by omega) _ (Ht.out.ext X.out)).mono ?_)
                  rintro e w5 ⟨n, ok, rfl, hn, hok, hx⟩
                  have X := Lib.hid (X.out.trans hx)
                  have BS := Lib.hid (BS.out.ext hx)
                  have BI := Lib.hid (BI.out.ext hx)
                  clear hx s0 s1 s2 s3 c0 c1 c2 c3 c4 hgsl hgil hc1 hkl
                  have hgsl := BS.out.lt
                  have hgil := BI.out.lt
                  obtain ⟨s0, s1, s2, s3⟩ := cells4 BS.out
                  obtain ⟨c0, c1, c2, c3, c4⟩ := cells5 BI.out
                  rcases hok with ⟨rfl, hok⟩ | ⟨rfl, hok⟩
                  case inr =>
                    have HN : Hid (readT ws = none) := Lib.hid (by rw [HS.out, HA.out, hok]; rfl)
                    clear hok
                    go_wp2
                    go_ret
                    exact InsPost.no HN.out (HSt.out.extend X.out)
                  case inl =>
                    have HN : Hid (readA (F.drop (k + 1)) (ws.drop (k + 1 + 1)) ⟨io, n, ib, ic, inn⟩ = readT ws) := Lib.hid (by rw [HS.out, HA.out, hok]; rfl)
                    clear hok
                    have hf5 : Hid (LIns.fits ⟨io, n, ib, ic, inn⟩) := Lib.hid (setT_fits Hfi.out 65 hn)
                    have hB4 := Lib.hid (BI.out.set_ 1 (.int .i64 n))
                    have hB2 := Lib.hid (BS.out.far (p := ⟨gi, 1, none⟩) hgn (.int .i64 n))
                    have XX := Lib.hid (X.out.setCell (p := ⟨gi, 1, none⟩) Hgi.out (.int .i64 n))
                    clear hn
                    go_wp2
                    go_roundw
                    case rel => exact ⟨k + 1, ⟨io, n, ib, ic, inn⟩, by omega, by go_num, hB2.out, hB4.out, hf5.out, XX.out, HN.out⟩
                    case measure => first | (simp [intOf]; done) | (simp [intOf]; omega)
            case inr.inl =>
              have hixK := str_index sK k 114 hKk.1
              have hixF := str_index sF k 66 hKk.2
              clear hKk
              cases U with
              | nil =>
                have HN : Hid (readT ws = none) := Lib.hid (by rw [HS.out]; rfl)
                go_upto_region 11 with fail
                have s2c : ∀ Wx, Ext wr Wx → Wx.cell? ⟨gs, 2, none⟩ = some (str sK) := fun _ h => h.kept s2.1
                refine region_calm 11 (by kernel_rfl) (by kernel_rfl) ?_
                simp only [List.take_succ_cons, List.take_zero, List.drop_succ_cons, List.drop_zero]
                repeat (first | (refine calm_fresh ?_ ?_ (fun wc hE => ?_) ?_; (decide); rfl; (focus (go_simp; done)); go_simp) | (refine calm_value ?_ ?_ ?_; (decide); (first | rfl | (focus (go_simp; done))); apply Exists.intro; refine ⟨fun wc hE => ?_, ?_⟩; (go_simp; exact rfl); go_simp) | (refine calm_call ?_ ?_ ?_; (decide); (first | rfl | (focus (go_simp; done))); apply Exists.intro; refine ⟨fun wc hE => ?_, ?_⟩; (go_simp; (first | fail)); go_simp) | (refine calm_skip ?_ ?_ ?_; (decide); (focus (go_simp; done)); go_simp))
                refine calm_nil ?_
                intro wx hx
                have X := Lib.hid (X.out.trans hx)
                have BS := Lib.hid (BS.out.ext hx)
                have BI := Lib.hid (BI.out.ext hx)
                have hc1 := hx.kept hc1
                clear hx s2c s0 s1 s2 s3 c0 c1 c2 c3 c4 hgsl hgil hkl
                have hgsl := BS.out.lt
                have hgil := BI.out.lt
                have hkl := Nat.lt_of_lt_of_le hkk X.out.size
                obtain ⟨s0, s1, s2, s3⟩ := cells4 BS.out
                obtain ⟨c0, c1, c2, c3, c4⟩ := cells5 BI.out
                go_wp2
                go_ret
                exact InsPost.no HN.out (HSt.out.extend X.out)
              | cons b r =>
                have hsU := str_size (b :: r)
                have hixU : ∀ W, (Instr.index 9 (str (b :: r)) (.int .i64 0)).run Tryd.prog W = .ok (.int .u8 (b.toNat : Int)) W := fun W => by simpa using str_index (b :: r) 0 b rfl W
                have hU0 : ((b :: r) == []) = false := rfl
                have hU3 : ¬ (b :: r) = [] := by simp
                have hUl : (b :: r).length = r.length + 1 := rfl
                have htl := tail_str b r (b :: r).length rfl
                have hU1 : 1 ≤ (b :: r).length := by simp
                have hU2 : (1 : Int) ≤ ((b :: r).length : Int) := by simp; omega
                by_cases hbf : b = 114
                case neg =>
                  have hbn : ((b.toNat : Int) != 114) = true := by
                    have : ¬ b.toNat = 114 := fun e => hbf (UInt8.toNat_inj.1 e)
                    simpa using (show ¬ (b.toNat : Int) = 114 by omega)
                  have HN : Hid (readT ws = none) := Lib.hid (by rw [HS.out]; simp [argT, hbf])
                  generalize b.toNat = mm at *
                  clear htl hUl hbf
                  generalize (b :: r : List UInt8) = U at *
                  go_upto_region 11 with fail
                  have s2c : ∀ Wx, Ext wr Wx → Wx.cell? ⟨gs, 2, none⟩ = some (str sK) := fun _ h => h.kept s2.1
                  refine region_calm 11 (by kernel_rfl) (by kernel_rfl) ?_
                  simp only [List.take_succ_cons, List.take_zero, List.drop_succ_cons, List.drop_zero]
                  repeat (first | (refine calm_fresh ?_ ?_ (fun wc hE => ?_) ?_; (decide); rfl; (focus (go_simp; done)); go_simp) | (refine calm_value ?_ ?_ ?_; (decide); (first | rfl | (focus (go_simp; done))); apply Exists.intro; refine ⟨fun wc hE => ?_, ?_⟩; (go_simp; exact rfl); go_simp) | (refine calm_call ?_ ?_ ?_; (decide); (first | rfl | (focus (go_simp; done))); apply Exists.intro; refine ⟨fun wc hE => ?_, ?_⟩; (go_simp; (first | fail)); go_simp) | (refine calm_skip ?_ ?_ ?_; (decide); (focus (go_simp; done)); go_simp))
                  refine calm_nil ?_
                  intro wx hx
                  have X := Lib.hid (X.out.trans hx)
                  have BS := Lib.hid (BS.out.ext hx)
                  have BI := Lib.hid (BI.out.ext hx)
                  have hc1 := hx.kept hc1
                  clear hx s2c s0 s1 s2 s3 c0 c1 c2 c3 c4 hgsl hgil hkl
                  have hgsl := BS.out.lt
                  have hgil := BI.out.lt
                  have hkl := Nat.lt_of_lt_of_le hkk X.out.size
                  obtain ⟨s0, s1, s2, s3⟩ := cells4 BS.out
                  obtain ⟨c0, c1, c2, c3, c4⟩ := cells5 BI.out
                  go_wp2
                  go_ret
                  exact InsPost.no HN.out (HSt.out.extend X.out)
                case pos =>
                  subst hbf
                  have HA : Hid (argT 66 (114 :: r) = numT r 18) := Lib.hid (by simp [argT])
                  have hrl : r.length ≤ 1000000000 := by omega
                  clear hUl
                  generalize hUe : (114 :: r : List UInt8) = U at *
                  clear hUe
                  go_upto_region 11 with fail
                  have s2c : ∀ Wx, Ext wr Wx → Wx.cell? ⟨gs, 2, none⟩ = some (str sK) := fun _ h => h.kept s2.1
                  refine region_calm 11 (by kernel_rfl) (by kernel_rfl) ?_
                  simp only [List.take_succ_cons, List.take_zero, List.drop_succ_cons, List.drop_zero]
                  repeat (first | (refine calm_fresh ?_ ?_ (fun wc hE => ?_) ?_; (decide); rfl; (focus (go_simp; done)); go_simp) | (refine calm_value ?_ ?_ ?_; (decide); (first | rfl | (focus (go_simp; done))); apply Exists.intro; refine ⟨fun wc hE => ?_, ?_⟩; (go_simp; exact rfl); go_simp) | (refine calm_call ?_ ?_ ?_; (decide); (first | rfl | (focus (go_simp; done))); apply Exists.intro; refine ⟨fun wc hE => ?_, ?_⟩; (go_simp; (first | fail)); go_simp) | (refine calm_skip ?_ ?_ ?_; (decide); (focus (go_simp; done)); go_simp))
                  refine calm_nil ?_
                  intro wx hx
                  have X := Lib.hid (X.out.trans hx)
                  have BS := Lib.hid (BS.out.ext hx)
                  have BI := Lib.hid (BI.out.ext hx)
                  have hc1 := hx.kept hc1
                  clear hx s2c s0 s1 s2 s3 c0 c1 c2 c3 c4 hgsl hgil hkl
                  have hgsl := BS.out.lt
                  have hgil := BI.out.lt
                  have hkl := Nat.lt_of_lt_of_le hkk X.out.size
                  obtain ⟨s0, s1, s2, s3⟩ := cells4 BS.out
                  obtain ⟨c0, c1, c2, c3, c4⟩ := cells5 BI.out
                  go_wp2_with fail
                  (with_reducible refine (number18 r (by omega) _ (Ht.out.ext X.out)).mono ?_)
                  rintro e w5 ⟨n, ok, rfl, hn, hok, hx⟩
                  have X := Lib.hid (X.out.trans hx)
                  have BS := Lib.hid (BS.out.ext hx)
                  have BI := Lib.hid (BI.out.ext hx)
                  clear hx s0 s1 s2 s3 c0 c1 c2 c3 c4 hgsl hgil hc1 hkl
                  have hgsl := BS.out.lt
                  have hgil := BI.out.lt
                  obtain ⟨s0, s1, s2, s3⟩ := cells4 BS.out
                  obtain ⟨c0, c1, c2, c3, c4⟩ := cells5 BI.out
                  rcases hok with ⟨rfl, hok⟩ | ⟨rfl, hok⟩
                  case inr =>
                    have HN : Hid (readT ws = none) := Lib.hid (by rw [HS.out, HA.out, hok]; rfl)
                    clear hok
                    go_wp2
                    go_ret
                    exact InsPost.no HN.out (HSt.out.extend X.out)
                  case inl =>
                    have HN : Hid (readA (F.drop (k + 1)) (ws.drop (k + 1 + 1)) ⟨io, ia, n, ic, inn⟩ = readT ws) := Lib.hid (by rw [HS.out, HA.out, hok]; rfl)
                    clear hok
                    have hf5 : Hid (LIns.fits ⟨io, ia, n, ic, inn⟩) := Lib.hid (setT_fits Hfi.out 66 hn)
                    have hB4 := Lib.hid (BI.out.set_ 2 (.int .i64 n))
                    have hB2 := Lib.hid (BS.out.far (p := ⟨gi, 2, none⟩) hgn (.int .i64 n))
                    have XX := Lib.hid (X.out.setCell (p := ⟨gi, 2, none⟩) Hgi.out (.int .i64 n))
                    clear hn
                    go_wp2
                    go_roundw
                    case rel => exact ⟨k + 1, ⟨io, ia, n, ic, inn⟩, by omega, by go_num, hB2.out, hB4.out, hf5.out, XX.out, HN.out⟩
                    case measure => first | (simp [intOf]; done) | (simp [intOf]; omega)
            case inr.inr.inl =>
              have hixK := str_index sK k 114 hKk.1
              have hixF := str_index sF k 67 hKk.2
              clear hKk
              cases U with
              | nil =>
                have HN : Hid (readT ws = none) := Lib.hid (by rw [HS.out]; rfl)
                go_upto_region 11 with fail
                have s2c : ∀ Wx, Ext wr Wx → Wx.cell? ⟨gs, 2, none⟩ = some (str sK) := fun _ h => h.kept s2.1
                refine region_calm 11 (by kernel_rfl) (by kernel_rfl) ?_
                simp only [List.take_succ_cons, List.take_zero, List.drop_succ_cons, List.drop_zero]
                repeat (first | (refine calm_fresh ?_ ?_ (fun wc hE => ?_) ?_; (decide); rfl; (focus (go_simp; done)); go_simp) | (refine calm_value ?_ ?_ ?_; (decide); (first | rfl | (focus (go_simp; done))); apply Exists.intro; refine ⟨fun wc hE => ?_, ?_⟩; (go_simp; exact rfl); go_simp) | (refine calm_call ?_ ?_ ?_; (decide); (first | rfl | (focus (go_simp; done))); apply Exists.intro; refine ⟨fun wc hE => ?_, ?_⟩; (go_simp; (first | fail)); go_simp) | (refine calm_skip ?_ ?_ ?_; (decide); (focus (go_simp; done)); go_simp))
                refine calm_nil ?_
                intro wx hx
                have X := Lib.hid (X.out.trans hx)
                have BS := Lib.hid (BS.out.ext hx)
                have BI := Lib.hid (BI.out.ext hx)
                have hc1 := hx.kept hc1
                clear hx s2c s0 s1 s2 s3 c0 c1 c2 c3 c4 hgsl hgil hkl
                have hgsl := BS.out.lt
                have hgil := BI.out.lt
                have hkl := Nat.lt_of_lt_of_le hkk X.out.size
                obtain ⟨s0, s1, s2, s3⟩ := cells4 BS.out
                obtain ⟨c0, c1, c2, c3, c4⟩ := cells5 BI.out
                go_wp2
                go_ret
                exact InsPost.no HN.out (HSt.out.extend X.out)
              | cons b r =>
                have hsU := str_size (b :: r)
                have hixU : ∀ W, (Instr.index 9 (str (b :: r)) (.int .i64 0)).run Tryd.prog W = .ok (.int .u8 (b.toNat : Int)) W := fun W => by simpa using str_index (b :: r) 0 b rfl W
                have hU0 : ((b :: r) == []) = false := rfl
                have hU3 : ¬ (b :: r) = [] := by simp
                have hUl : (b :: r).length = r.length + 1 := rfl
                have htl := tail_str b r (b :: r).length rfl
                have hU1 : 1 ≤ (b :: r).length := by simp
                have hU2 : (1 : Int) ≤ ((b :: r).length : Int) := by simp; omega
                by_cases hbf : b = 114
                case neg =>
                  have hbn : ((b.toNat : Int) != 114) = true := by
                    have : ¬ b.toNat = 114 := fun e => hbf (UInt8.toNat_inj.1 e)
                    simpa using (show ¬ (b.toNat : Int) = 114 by omega)
                  have HN : Hid (readT ws = none) := Lib.hid (by rw [HS.out]; simp [argT, hbf])
                  generalize b.toNat = mm at *
                  clear htl hUl hbf
                  generalize (b :: r : List UInt8) = U at *
                  go_upto_region 11 with fail
                  have s2c : ∀ Wx, Ext wr Wx → Wx.cell? ⟨gs, 2, none⟩ = some (str sK) := fun _ h => h.kept s2.1
                  refine region_calm 11 (by kernel_rfl) (by kernel_rfl) ?_
                  simp only [List.take_succ_cons, List.take_zero, List.drop_succ_cons, List.drop_zero]
                  repeat (first | (refine calm_fresh ?_ ?_ (fun wc hE => ?_) ?_; (decide); rfl; (focus (go_simp; done)); go_simp) | (refine calm_value ?_ ?_ ?_; (decide); (first | rfl | (focus (go_simp; done))); apply Exists.intro; refine ⟨fun wc hE => ?_, ?_⟩; (go_simp; exact rfl); go_simp) | (refine calm_call ?_ ?_ ?_; (decide); (first | rfl | (focus (go_simp; done))); apply Exists.intro; refine ⟨fun wc hE => ?_, ?_⟩; (go_simp; (first | fail)); go_simp) | (refine calm_skip ?_ ?_ ?_; (decide); (focus (go_simp; done)); go_simp))
                  refine calm_nil ?_
                  intro wx hx
                  have X := Lib.hid (X.out.trans hx)
                  have BS := Lib.hid (BS.out.ext hx)
                  have BI := Lib.hid (BI.out.ext hx)
                  have hc1 := hx.kept hc1
                  clear hx s2c s0 s1 s2 s3 c0 c1 c2 c3 c4 hgsl hgil hkl
                  have hgsl := BS.out.lt
                  have hgil := BI.out.lt
                  have hkl := Nat.lt_of_lt_of_le hkk X.out.size
                  obtain ⟨s0, s1, s2, s3⟩ := cells4 BS.out
                  obtain ⟨c0, c1, c2, c3, c4⟩ := cells5 BI.out
                  go_wp2
                  go_ret
                  exact InsPost.no HN.out (HSt.out.extend X.out)
                case pos =>
                  subst hbf
                  have HA : Hid (argT 67 (114 :: r) = numT r 18) := Lib.hid (by simp [argT])
                  have hrl : r.length ≤ 1000000000 := by omega
                  clear hUl
                  generalize hUe : (114 :: r : List UInt8) = U at *
                  clear hUe
                  go_upto_region 11 with fail
                  have s2c : ∀ Wx, Ext wr Wx → Wx.cell? ⟨gs, 2, none⟩ = some (str sK) := fun _ h => h.kept s2.1
                  refine region_calm 11 (by kernel_rfl) (by kernel_rfl) ?_
                  simp only [List.take_succ_cons, List.take_zero, List.drop_succ_cons, List.drop_zero]
                  repeat (first | (refine calm_fresh ?_ ?_ (fun wc hE => ?_) ?_; (decide); rfl; (focus (go_simp; done)); go_simp) | (refine calm_value ?_ ?_ ?_; (decide); (first | rfl | (focus (go_simp; done))); apply Exists.intro; refine ⟨fun wc hE => ?_, ?_⟩; (go_simp; exact rfl); go_simp) | (refine calm_call ?_ ?_ ?_; (decide); (first | rfl | (focus (go_simp; done))); apply Exists.intro; refine ⟨fun wc hE => ?_, ?_⟩; (go_simp; (first | fail)); go_simp) | (refine calm_skip ?_ ?_ ?_; (decide); (focus (go_simp; done)); go_simp))
                  refine calm_nil ?_
                  intro wx hx
                  have X := Lib.hid (X.out.trans hx)
                  have BS := Lib.hid (BS.out.ext hx)
                  have BI := Lib.hid (BI.out.ext hx)
                  have hc1 := hx.kept hc1
                  clear hx s2c s0 s1 s2 s3 c0 c1 c2 c3 c4 hgsl hgil hkl
                  have hgsl := BS.out.lt
                  have hgil := BI.out.lt
                  have hkl := Nat.lt_of_lt_of_le hkk X.out.size
                  obtain ⟨s0, s1, s2, s3⟩ := cells4 BS.out
                  obtain ⟨c0, c1, c2, c3, c4⟩ := cells5 BI.out
                  go_wp2_with fail
                  (with_reducible refine (number18 r (by omega) _ (Ht.out.ext X.out)).mono ?_)
                  rintro e w5 ⟨n, ok, rfl, hn, hok, hx⟩
                  have X := Lib.hid (X.out.trans hx)
                  have BS := Lib.hid (BS.out.ext hx)
                  have BI := Lib.hid (BI.out.ext hx)
                  clear hx s0 s1 s2 s3 c0 c1 c2 c3 c4 hgsl hgil hc1 hkl
                  have hgsl := BS.out.lt
                  have hgil := BI.out.lt
                  obtain ⟨s0, s1, s2, s3⟩ := cells4 BS.out
                  obtain ⟨c0, c1, c2, c3, c4⟩ := cells5 BI.out
                  rcases hok with ⟨rfl, hok⟩ | ⟨rfl, hok⟩
                  case inr =>
                    have HN : Hid (readT ws = none) := Lib.hid (by rw [HS.out, HA.out, hok]; rfl)
                    clear hok
                    go_wp2
                    go_ret
                    exact InsPost.no HN.out (HSt.out.extend X.out)
                  case inl =>
                    have HN : Hid (readA (F.drop (k + 1)) (ws.drop (k + 1 + 1)) ⟨io, ia, ib, n, inn⟩ = readT ws) := Lib.hid (by rw [HS.out, HA.out, hok]; rfl)
                    clear hok
                    have hf5 : Hid (LIns.fits ⟨io, ia, ib, n, inn⟩) := Lib.hid (setT_fits Hfi.out 67 hn)
                    have hB4 := Lib.hid (BI.out.set_ 3 (.int .i64 n))
                    have hB2 := Lib.hid (BS.out.far (p := ⟨gi, 3, none⟩) hgn (.int .i64 n))
                    have XX := Lib.hid (X.out.setCell (p := ⟨gi, 3, none⟩) Hgi.out (.int .i64 n))
                    clear hn
                    go_wp2
                    go_roundw
                    case rel => exact ⟨k + 1, ⟨io, ia, ib, n, inn⟩, by omega, by go_num, hB2.out, hB4.out, hf5.out, XX.out, HN.out⟩
                    case measure => first | (simp [intOf]; done) | (simp [intOf]; omega)
            case inr.inr.inr.inl =>
              have hixK := str_index sK k 103 hKk.1
              have hixF := str_index sF k 67 hKk.2
              clear hKk
              cases U with
              | nil =>
                have HN : Hid (readT ws = none) := Lib.hid (by rw [HS.out]; rfl)
                go_upto_region 11 with fail
                have s2c : ∀ Wx, Ext wr Wx → Wx.cell? ⟨gs, 2, none⟩ = some (str sK) := fun _ h => h.kept s2.1
                refine region_calm 11 (by kernel_rfl) (by kernel_rfl) ?_
                simp only [List.take_succ_cons, List.take_zero, List.drop_succ_cons, List.drop_zero]
                repeat (first | (refine calm_fresh ?_ ?_ (fun wc hE => ?_) ?_; (decide); rfl; (focus (go_simp; done)); go_simp) | (refine calm_value ?_ ?_ ?_; (decide); (first | rfl | (focus (go_simp; done))); apply Exists.intro; refine ⟨fun wc hE => ?_, ?_⟩; (go_simp; exact rfl); go_simp) | (refine calm_call ?_ ?_ ?_; (decide); (first | rfl | (focus (go_simp; done))); apply Exists.intro; refine ⟨fun wc hE => ?_, ?_⟩; (go_simp; (first | fail)); go_simp) | (refine calm_skip ?_ ?_ ?_; (decide); (focus (go_simp; done)); go_simp))
                refine calm_nil ?_
                intro wx hx
                have X := Lib.hid (X.out.trans hx)
                have BS := Lib.hid (BS.out.ext hx)
                have BI := Lib.hid (BI.out.ext hx)
                have hc1 := hx.kept hc1
                clear hx s2c s0 s1 s2 s3 c0 c1 c2 c3 c4 hgsl hgil hkl
                have hgsl := BS.out.lt
                have hgil := BI.out.lt
                have hkl := Nat.lt_of_lt_of_le hkk X.out.size
                obtain ⟨s0, s1, s2, s3⟩ := cells4 BS.out
                obtain ⟨c0, c1, c2, c3, c4⟩ := cells5 BI.out
                go_wp2
                go_ret
                exact InsPost.no HN.out (HSt.out.extend X.out)
              | cons b r =>
                have hsU := str_size (b :: r)
                have hixU : ∀ W, (Instr.index 9 (str (b :: r)) (.int .i64 0)).run Tryd.prog W = .ok (.int .u8 (b.toNat : Int)) W := fun W => by simpa using str_index (b :: r) 0 b rfl W
                have hU0 : ((b :: r) == []) = false := rfl
                have hU3 : ¬ (b :: r) = [] := by simp
                have hUl : (b :: r).length = r.length + 1 := rfl
                have htl := tail_str b r (b :: r).length rfl
                have hU1 : 1 ≤ (b :: r).length := by simp
                have hU2 : (1 : Int) ≤ ((b :: r).length : Int) := by simp; omega
                by_cases hbf : b = 103
                case neg =>
                  have hbn : ((b.toNat : Int) != 103) = true := by
                    have : ¬ b.toNat = 103 := fun e => hbf (UInt8.toNat_inj.1 e)
                    simpa using (show ¬ (b.toNat : Int) = 103 by omega)
                  have HN : Hid (readT ws = none) := Lib.hid (by rw [HS.out]; simp [argT, hbf])
                  generalize b.toNat = mm at *
                  clear htl hUl hbf
                  generalize (b :: r : List UInt8) = U at *
                  go_upto_region 11 with fail
                  have s2c : ∀ Wx, Ext wr Wx → Wx.cell? ⟨gs, 2, none⟩ = some (str sK) := fun _ h => h.kept s2.1
                  refine region_calm 11 (by kernel_rfl) (by kernel_rfl) ?_
                  simp only [List.take_succ_cons, List.take_zero, List.drop_succ_cons, List.drop_zero]
                  repeat (first | (refine calm_fresh ?_ ?_ (fun wc hE => ?_) ?_; (decide); rfl; (focus (go_simp; done)); go_simp) | (refine calm_value ?_ ?_ ?_; (decide); (first | rfl | (focus (go_simp; done))); apply Exists.intro; refine ⟨fun wc hE => ?_, ?_⟩; (go_simp; exact rfl); go_simp) | (refine calm_call ?_ ?_ ?_; (decide); (first | rfl | (focus (go_simp; done))); apply Exists.intro; refine ⟨fun wc hE => ?_, ?_⟩; (go_simp; (first | fail)); go_simp) | (refine calm_skip ?_ ?_ ?_; (decide); (focus (go_simp; done)); go_simp))
                  refine calm_nil ?_
                  intro wx hx
                  have X := Lib.hid (X.out.trans hx)
                  have BS := Lib.hid (BS.out.ext hx)
                  have BI := Lib.hid (BI.out.ext hx)
                  have hc1 := hx.kept hc1
                  clear hx s2c s0 s1 s2 s3 c0 c1 c2 c3 c4 hgsl hgil hkl
                  have hgsl := BS.out.lt
                  have hgil := BI.out.lt
                  have hkl := Nat.lt_of_lt_of_le hkk X.out.size
                  obtain ⟨s0, s1, s2, s3⟩ := cells4 BS.out
                  obtain ⟨c0, c1, c2, c3, c4⟩ := cells5 BI.out
                  go_wp2
                  go_ret
                  exact InsPost.no HN.out (HSt.out.extend X.out)
                case pos =>
                  subst hbf
                  have HA : Hid (argT 68 (103 :: r) = numT r 18) := Lib.hid (by simp [argT])
                  have hrl : r.length ≤ 1000000000 := by omega
                  clear hUl
                  generalize hUe : (103 :: r : List UInt8) = U at *
                  clear hUe
                  go_upto_region 11 with fail
                  have s2c : ∀ Wx, Ext wr Wx → Wx.cell? ⟨gs, 2, none⟩ = some (str sK) := fun _ h => h.kept s2.1
                  refine region_calm 11 (by kernel_rfl) (by kernel_rfl) ?_
                  simp only [List.take_succ_cons, List.take_zero, List.drop_succ_cons, List.drop_zero]
                  repeat (first | (refine calm_fresh ?_ ?_ (fun wc hE => ?_) ?_; (decide); rfl; (focus (go_simp; done)); go_simp) | (refine calm_value ?_ ?_ ?_; (decide); (first | rfl | (focus (go_simp; done))); apply Exists.intro; refine ⟨fun wc hE => ?_, ?_⟩; (go_simp; exact rfl); go_simp) | (refine calm_call ?_ ?_ ?_; (decide); (first | rfl | (focus (go_simp; done))); apply Exists.intro; refine ⟨fun wc hE => ?_, ?_⟩; (go_simp; (first | fail)); go_simp) | (refine calm_skip ?_ ?_ ?_; (decide); (focus (go_simp; done)); go_simp))
                  refine calm_nil ?_
                  intro wx hx
                  have X := Lib.hid (X.out.trans hx)
                  have BS := Lib.hid (BS.out.ext hx)
                  have BI := Lib.hid (BI.out.ext hx)
                  have hc1 := hx.kept hc1
                  clear hx s2c s0 s1 s2 s3 c0 c1 c2 c3 c4 hgsl hgil hkl
                  have hgsl := BS.out.lt
                  have hgil := BI.out.lt
                  have hkl := Nat.lt_of_lt_of_le hkk X.out.size
                  obtain ⟨s0, s1, s2, s3⟩ := cells4 BS.out
                  obtain ⟨c0, c1, c2, c3, c4⟩ := cells5 BI.out
                  go_wp2_with fail
                  (with_reducible refine (number18 r (by omega) _ (Ht.out.ext X.out)).mono ?_)
                  rintro e w5 ⟨n, ok, rfl, hn, hok, hx⟩
                  have X := Lib.hid (X.out.trans hx)
                  have BS := Lib.hid (BS.out.ext hx)
                  have BI := Lib.hid (BI.out.ext hx)
                  clear hx s0 s1 s2 s3 c0 c1 c2 c3 c4 hgsl hgil hc1 hkl
                  have hgsl := BS.out.lt
                  have hgil := BI.out.lt
                  obtain ⟨s0, s1, s2, s3⟩ := cells4 BS.out
                  obtain ⟨c0, c1, c2, c3, c4⟩ := cells5 BI.out
                  rcases hok with ⟨rfl, hok⟩ | ⟨rfl, hok⟩
                  case inr =>
                    have HN : Hid (readT ws = none) := Lib.hid (by rw [HS.out, HA.out, hok]; rfl)
                    clear hok
                    go_wp2
                    go_ret
                    exact InsPost.no HN.out (HSt.out.extend X.out)
                  case inl =>
                    have HN : Hid (readA (F.drop (k + 1)) (ws.drop (k + 1 + 1)) ⟨io, ia, ib, n, inn⟩ = readT ws) := Lib.hid (by rw [HS.out, HA.out, hok]; rfl)
                    clear hok
                    have hf5 : Hid (LIns.fits ⟨io, ia, ib, n, inn⟩) := Lib.hid (setT_fits Hfi.out 68 hn)
                    have hB4 := Lib.hid (BI.out.set_ 3 (.int .i64 n))
                    have hB2 := Lib.hid (BS.out.far (p := ⟨gi, 3, none⟩) hgn (.int .i64 n))
                    have XX := Lib.hid (X.out.setCell (p := ⟨gi, 3, none⟩) Hgi.out (.int .i64 n))
                    clear hn
                    go_wp2
                    go_roundw
                    case rel => exact ⟨k + 1, ⟨io, ia, ib, n, inn⟩, by omega, by go_num, hB2.out, hB4.out, hf5.out, XX.out, HN.out⟩
                    case measure => first | (simp [intOf]; done) | (simp [intOf]; omega)
            case inr.inr.inr.inr =>
              have hixK := str_index sK k 110 hKk.1
              have hixF := str_index sF k 78 hKk.2
              clear hKk
              have HA : Hid (argT 78 U = numT U 19) := Lib.hid (by simp [argT])
              go_wp2_with fail
              (with_reducible refine (number19 U (by omega) _ (Ht.out.ext X.out)).mono ?_)
              rintro e w5 ⟨n, ok, rfl, hn, hok, hx⟩
              have X := Lib.hid (X.out.trans hx)
              have BS := Lib.hid (BS.out.ext hx)
              have BI := Lib.hid (BI.out.ext hx)
              clear hx s0 s1 s2 s3 c0 c1 c2 c3 c4 hgsl hgil hc1 hkl
              have hgsl := BS.out.lt
              have hgil := BI.out.lt
              obtain ⟨s0, s1, s2, s3⟩ := cells4 BS.out
              obtain ⟨c0, c1, c2, c3, c4⟩ := cells5 BI.out
              rcases hok with ⟨rfl, hok⟩ | ⟨rfl, hok⟩
              case inr =>
                have HN : Hid (readT ws = none) := Lib.hid (by rw [HS.out, HA.out, hok]; rfl)
                clear hok
                go_wp2
                go_ret
                exact InsPost.no HN.out (HSt.out.extend X.out)
              case inl =>
                have HN : Hid (readA (F.drop (k + 1)) (ws.drop (k + 1 + 1)) ⟨io, ia, ib, ic, n⟩ = readT ws) := Lib.hid (by rw [HS.out, HA.out, hok]; rfl)
                clear hok
                have hf5 : Hid (LIns.fits ⟨io, ia, ib, ic, n⟩) := Lib.hid (setT_fits Hfi.out 78 hn)
                have hB4 := Lib.hid (BI.out.set_ 4 (.int .i64 n))
                have hB2 := Lib.hid (BS.out.far (p := ⟨gi, 4, none⟩) hgn (.int .i64 n))
                have XX := Lib.hid (X.out.setCell (p := ⟨gi, 4, none⟩) Hgi.out (.int .i64 n))
                clear hn
                go_wp2
                go_roundw
                case rel => exact ⟨k + 1, ⟨io, ia, ib, ic, n⟩, by omega, by go_num, hB2.out, hB4.out, hf5.out, XX.out, HN.out⟩
                case measure => first | (simp [intOf]; done) | (simp [intOf]; omega)
def LinePost (l : List UInt8) (w0 : World) (B g : Nat) (regs : List LReg) (code : List LIns) (e : Ending) (w' : World) : Prop :=
  ∃ b, e = .returned (.bool b) ∧ ((b = true ∧ ∃ (q : LProg) (vR' vC' : Value), lineP ⟨regs, code⟩ l = some q ∧ TSt w0 w' B g 50 vR' vC' q.regs q.code ∧ q.regs.length + q.code.length ≤ regs.length + code.length + 1) ∨ (b = false ∧ lineP ⟨regs, code⟩ l = none ∧ Ext w0 w'))
theorem LinePost.no {l : List UInt8} {w0 w' : World} {B g : Nat} {regs : List LReg} {code : List LIns} (h : lineP ⟨regs, code⟩ l = none) (hx : Ext w0 w') : LinePost l w0 B g regs code (.returned (.bool false)) w' := ⟨false, rfl, .inr ⟨rfl, h, hx⟩⟩
theorem LinePost.yes {l : List UInt8} {w0 w' : World} {B g : Nat} {regs : List LReg} {code : List LIns} {q : LProg} {vR' vC' : Value} (h : lineP ⟨regs, code⟩ l = some q) (hS : TSt w0 w' B g 50 vR' vC' q.regs q.code) (hn : q.regs.length + q.code.length ≤ regs.length + code.length + 1) : LinePost l w0 B g regs code (.returned (.bool true)) w' := ⟨true, rfl, .inl ⟨rfl, q, vR', vC', h, hS, hn⟩⟩
set_option maxRecDepth 100000 in
set_option maxHeartbeats 16000000 in
theorem line_c9 (l : List UInt8) (hll : l.length ≤ 1000000000) (w0 w : World) (B g : Nat) (vR vC : Value) (regs : List LReg) (code : List LIns) (hS : TSt w0 w B g 50 vR vC regs code) (hrc : regs.length + code.length ≤ 1000000000) (ht : Tab9 w) :
    Calls Tryd.prog 20 #[.pointer (some ⟨g, 0, none⟩), str l] w (LinePost l w0 B g regs code) := by
  obtain ⟨i0, hi0, hz0, hz1, hz2⟩ := info_parts infoRegT
  obtain ⟨oR, cR, rfl⟩ := own_slice hS.rg
  obtain ⟨oC, cC, rfl⟩ := own_slice hS.cd
  have HS := Lib.hid hS
  have Ht := Lib.hid ht
  have HSp := Lib.hid (split_c 32 l hll w ht)
  have Hll := Lib.hid hll
  clear hS ht hll
  go_enter Tryd.func20, Tryd.ntmps20
  go_wp2_with fail
  (with_reducible refine HSp.out.mono ?_)
  clear HSp
  rintro e w5 ⟨v5, rfl, hv, hx⟩
  have HS5 := Lib.hid (HS.out.extend hx)
  have Ht5 := Lib.hid (Ht.out.ext hx)
  have hsl := splitT_len 32 l
  have hw1 : 1 ≤ (splitT 32 l).length := by omega
  have HV := Lib.hid hv
  have Hw : Hid (∀ x ∈ splitT 32 l, x.length ≤ 1000000000) := Lib.hid (fun x h => by have := part_le 32 l x h; have := Hll.out; omega)
  have HLp : Hid (lineP ⟨regs, code⟩ l = lineW ⟨regs, code⟩ (splitT 32 l)) := Lib.hid rfl
  generalize splitT 32 l = ws at *
  obtain ⟨kw, cw, rfl, hcw, hcmw, hkw, hcells⟩ := HV.out
  have Hcw := Lib.hid fun W (Y : Ext w5 W) j hj => Y.kept (hcells j hj)
  have hixw := index_strs (oa := some ⟨kw, 0, none⟩) (n := ws.length) (b := kw) (o := 0) (cap := cw) (fun _ => rfl)
  clear hv hx hsl hcells HS Ht
  obtain ⟨d0, d1⟩ := HS5.out.cells
  have hgl := HS5.out.box.lt
  obtain ⟨x0, hx0⟩ : ∃ x, ws.getD 0 [] = x := ⟨_, rfl⟩
  have cw0 := Hcw.out w5 (Ext.refl _) 0 (by omega)
  rw [hx0] at cw0
  have Hx0 := Lib.hid hx0
  clear hx0
  by_cases h0 : x0 = regionW
  case neg =>
    have Hl : Hid (lineW ⟨regs, code⟩ ws = (readT ws).map fun i => ⟨regs, code ++ [i]⟩) := Lib.hid (by unfold lineW; rw [Hx0.out, if_neg h0])
    rw [Hl.out] at HLp
    have h0l : ¬ x0 = [114, 101, 103, 105, 111, 110] := h0
    have q0 : (x0 == [114, 101, 103, 105, 111, 110]) = false := by simpa using h0l
    clear h0
    go_wp2_with fail
    (with_reducible refine (ins_c9 ws _ w0 w5 B g _ _ regs code HS5.out (by omega) Ht5.out HV.out hw1 Hw.out).mono ?_)
    rintro e w6 ⟨b, rfl, hb⟩
    clear d0 d1 hgl cw0
    rcases hb with ⟨rfl, ii, vC2, hr, hS6⟩ | ⟨rfl, hr, hS6⟩
    · have HN : Hid (lineP ⟨regs, code⟩ l = some ⟨regs, code ++ [ii]⟩) := Lib.hid (by rw [HLp.out, hr]; rfl)
      have HS6 := Lib.hid hS6
      clear hr hS6
      go_wp2
      go_ret
      exact LinePost.yes HN.out HS6.out (by simp; omega)
    · have HN : Hid (lineP ⟨regs, code⟩ l = none) := Lib.hid (by rw [HLp.out, hr]; rfl)
      have HS6 := Lib.hid hS6
      clear hr hS6
      go_wp2
      go_ret
      exact LinePost.no HN.out HS6.out.ext
  case pos =>
    have Hl : Hid (lineW ⟨regs, code⟩ ws = if ws.length ≠ 3 ∨ 0 < code.length ∨ (ws.getD 2 [] ≠ publicW ∧ ws.getD 2 [] ≠ secretW) then none else (numT (ws.getD 1 []) 18).map fun n => ⟨regs ++ [⟨n, decide (ws.getD 2 [] = secretW)⟩], code⟩) := Lib.hid (by unfold lineW; rw [Hx0.out, if_pos h0])
    rw [Hl.out] at HLp
    have h0l : x0 = [114, 101, 103, 105, 111, 110] := h0
    clear h0 Hl Hx0
    subst h0l
    by_cases h3 : ws.length = 3
    case neg =>
      have q3 : ((ws.length : Int) != 3) = true := by simpa using (show ¬ (ws.length : Int) = 3 by omega)
      have HN : Hid (lineP ⟨regs, code⟩ l = none) := Lib.hid (by rw [HLp.out, if_pos (.inl h3)])
      clear h3
      go_wp2
      go_ret
      exact LinePost.no HN.out HS5.out.ext
    case pos =>
      have q3 : ((ws.length : Int) != 3) = false := by simpa using (show (ws.length : Int) = 3 by omega)
      obtain ⟨x1, hx1⟩ : ∃ x, ws.getD 1 [] = x := ⟨_, rfl⟩
      obtain ⟨x2, hx2⟩ : ∃ x, ws.getD 2 [] = x := ⟨_, rfl⟩
      have cw1 := Hcw.out w5 (Ext.refl _) 1 (by omega)
      have cw2 := Hcw.out w5 (Ext.refl _) 2 (by omega)
      rw [hx1] at cw1
      rw [hx2] at cw2
      have hx1l : x1.length ≤ 1000000000 := by rw [← hx1]; exact Hw.out _ (getD_in (by omega))
      have hi0w : (0 : Int) < (ws.length : Int) := by omega
      have hi1w : (1 : Int) < (ws.length : Int) := by omega
      have hi2w : (2 : Int) < (ws.length : Int) := by omega
      rw [hx1, hx2] at HLp
      have H3 := Lib.hid h3
      clear hx1 hx2 h3
      by_cases hc0 : 0 < code.length
      case pos =>
        have HN : Hid (lineP ⟨regs, code⟩ l = none) := Lib.hid (by rw [HLp.out, if_pos (.inr (.inl hc0))])
        go_wp2
        go_ret
        exact LinePost.no HN.out HS5.out.ext
      case neg =>
        have hcd : (code.length : Int) = 0 := by omega
        have qc : decide ((0 : Int) < (code.length : Int)) = false := decide_eq_false (by omega)
        by_cases hp : x2 = publicW
        case pos =>
          have HC : Hid (¬ (ws.length ≠ 3 ∨ 0 < code.length ∨ (x2 ≠ publicW ∧ x2 ≠ secretW))) := Lib.hid (by have := H3.out; rintro (h | h | h); exact h this; omega; exact h.1 hp)
          have HD : Hid (decide (x2 = secretW) = false) := Lib.hid (by rw [hp]; decide)
          have hpl : x2 = [112, 117, 98, 108, 105, 99] := hp
          clear hp
          subst hpl
          go_wp2_with fail
          (with_reducible refine (number18 x1 hx1l _ Ht5.out).mono ?_)
          rintro e w6 ⟨m, ok, rfl, hm, hok, hx⟩
          have HS6 := Lib.hid (HS5.out.extend hx)
          have cw2 := hx.kept cw2
          have hkw6 := hx.lt hkw
          have hkw5 := hkw
          clear d0 d1 hgl cw0 cw1 hkw
          obtain ⟨d0, d1⟩ := HS6.out.cells
          have hgl := HS6.out.box.lt
          clear hx
          have Hm := Lib.hid hm
          have Hok := Lib.hid hok
          clear hok hm
          have hBs := HS6.out.size
          go_upto_region 7 with fail
          have k0 : ∀ Wx, Ext w6 Wx → Wx.cell? ⟨g, 0, none⟩ = some (.slice oR regs.length cR) := fun _ h => h.kept d0.1
          have k2 : ∀ Wx, Ext w6 Wx → Wx.cell? ⟨kw, 2, none⟩ = some (str [112, 117, 98, 108, 105, 99]) := fun _ h => h.kept cw2
          clear d0 d1 cw2
          refine region_float [12, 13, 14, 15, 16, 17] 1 (by kernel_rfl) (by kernel_rfl) ?_
          repeat (first | (refine cw_heavy ?_ ?_; (decide)) | (refine cw_value ?_ ?_ ?_; (decide); (first | rfl | (focus (go_simp; done))); apply Exists.intro; refine ⟨fun wc hE => ?_, ?_⟩; (go_simp; exact rfl); go_simp) | (refine cw_skip ?_ ?_ ?_; (decide); (focus (go_simp; done)); go_simp))
          refine cw_nil ?_
          intro w7 hx
          have HS7 := Lib.hid (HS6.out.extend hx)
          have HX := Lib.hid hx
          have hBs7 := HS7.out.size
          clear k0 k2 hx hBs
          refine wpF_soft rfl ?_
          go_wp2
          refine ⟨HX.out.alloc _, ?_⟩
          refine wpF_hard (heavies_cons rfl (heavies_cons rfl (heavies_cons rfl (heavies_cons rfl (heavies_cons rfl (heavies_nil)))))) ?_
          refine wpList_append_src _ rfl _ _ 22 rfl B 43 i0 _ 2 16 Tryd.underlying22 hi0 hz0 hz1 hz2 rfl (by decide) _ _ _ rfl (own_alloc HS7.out.rg) (some ⟨w7.heap.size, 0, none⟩) 1 1 (regCells ⟨m, false⟩) rfl ?c1 ?c3 ?c4 ?c5 ?_
          case c1 => exact src_new (size := 2) (Blk.new w7 43 #[.int .i64 m, .bool false]) rfl (by simp [Value.oneCell'])
          case c3 => unfold maxLen; omega
          case c4 => omega
          case c5 => simp; omega
          intro vR' w8 hown hgrow hat2
          clear hat2
          obtain ⟨oR2, cR2, rfl⟩ := own_slice hown
          have hxa := (Ext.refl w7).alloc (.cells #[.int .i64 m, .bool false] 43)
          have HSa := HS7.out.extend hxa
          have hgrow : (w7.alloc (.cells #[.int .i64 m, .bool false] 43)).grownBy w8 (Value.slice oR regs.length cR).ownBlock := hgrow
          have hlen : (regs ++ [(⟨m, false⟩ : LReg)]).length = regs.length + 1 := by simp
          have HS8 : Hid (TSt w0 (w8.setCell ⟨g, 0, none⟩ (.slice oR2 (regs.length + 1) cR2)) B g 50 (.slice oR2 (regs.length + 1) cR2) (.slice oC code.length cC) (regs ++ [⟨m, false⟩]) code) := Lib.hid (HSa.regs_ hgrow (by rw [hlen, List.flatMap_append]; simpa using hown) (fun r hr => by rcases List.mem_append.1 hr with h | h; exact HS7.out.fr r h; rw [List.mem_singleton.1 h]; exact Hm.out))
          have hb8 := HSa.box.grown hgrow (own_ne HSa.rg HSa.box HSa.nr)
          have p0 : w8.cell? ⟨g, 0, none⟩ = some (.slice oR regs.length cR) ∧ w8.frozen? ⟨g, 0, none⟩ = false := ⟨by rw [hb8.cell]; rfl, hb8.frozen _⟩
          have hgo8 := hb8.lt
          clear hown hgrow hxa HSa hb8 hlen hgl
          go_wp2
          go_ret
          rcases Hok.out with ⟨rfl, hok⟩ | ⟨rfl, hok⟩
          · exact LinePost.yes (by rw [HLp.out, if_neg HC.out, hok, Option.map_some, HD.out]) HS8.out (by simp; omega)
          · exact LinePost.no (by rw [HLp.out, if_neg HC.out, hok]; rfl) HS8.out.ext
        case neg =>
          by_cases hq : x2 = secretW
          case pos =>
            have HC : Hid (¬ (ws.length ≠ 3 ∨ 0 < code.length ∨ (x2 ≠ publicW ∧ x2 ≠ secretW))) := Lib.hid (by have := H3.out; rintro (h | h | h); exact h this; omega; exact h.2 hq)
            have HD : Hid (decide (x2 = secretW) = true) := Lib.hid (by rw [hq]; decide)
            have hql : x2 = [115, 101, 99, 114, 101, 116] := hq
            clear hp hq
            subst hql
            go_wp2_with fail
            (with_reducible refine (number18 x1 hx1l _ Ht5.out).mono ?_)
            rintro e w6 ⟨m, ok, rfl, hm, hok, hx⟩
            have HS6 := Lib.hid (HS5.out.extend hx)
            have cw2 := hx.kept cw2
            have hkw6 := hx.lt hkw
            have hkw5 := hkw
            clear d0 d1 hgl cw0 cw1 hkw
            obtain ⟨d0, d1⟩ := HS6.out.cells
            have hgl := HS6.out.box.lt
            clear hx
            have Hm := Lib.hid hm
            have Hok := Lib.hid hok
            clear hok hm
            have hBs := HS6.out.size
            go_upto_region 7 with fail
            have k0 : ∀ Wx, Ext w6 Wx → Wx.cell? ⟨g, 0, none⟩ = some (.slice oR regs.length cR) := fun _ h => h.kept d0.1
            have k2 : ∀ Wx, Ext w6 Wx → Wx.cell? ⟨kw, 2, none⟩ = some (str [115, 101, 99, 114, 101, 116]) := fun _ h => h.kept cw2
            clear d0 d1 cw2
            refine region_float [12, 13, 14, 15, 16, 17] 1 (by kernel_rfl) (by kernel_rfl) ?_
            repeat (first | (refine cw_heavy ?_ ?_; (decide)) | (refine cw_value ?_ ?_ ?_; (decide); (first | rfl | (focus (go_simp; done))); apply Exists.intro; refine ⟨fun wc hE => ?_, ?_⟩; (go_simp; exact rfl); go_simp) | (refine cw_skip ?_ ?_ ?_; (decide); (focus (go_simp; done)); go_simp))
            refine cw_nil ?_
            intro w7 hx
            have HS7 := Lib.hid (HS6.out.extend hx)
            have HX := Lib.hid hx
            have hBs7 := HS7.out.size
            clear k0 k2 hx hBs
            refine wpF_soft rfl ?_
            go_wp2
            refine ⟨HX.out.alloc _, ?_⟩
            refine wpF_hard (heavies_cons rfl (heavies_cons rfl (heavies_cons rfl (heavies_cons rfl (heavies_cons rfl (heavies_nil)))))) ?_
            refine wpList_append_src _ rfl _ _ 22 rfl B 43 i0 _ 2 16 Tryd.underlying22 hi0 hz0 hz1 hz2 rfl (by decide) _ _ _ rfl (own_alloc HS7.out.rg) (some ⟨w7.heap.size, 0, none⟩) 1 1 (regCells ⟨m, true⟩) rfl ?c1 ?c3 ?c4 ?c5 ?_
            case c1 => exact src_new (size := 2) (Blk.new w7 43 #[.int .i64 m, .bool true]) rfl (by simp [Value.oneCell'])
            case c3 => unfold maxLen; omega
            case c4 => omega
            case c5 => simp; omega
            intro vR' w8 hown hgrow hat2
            clear hat2
            obtain ⟨oR2, cR2, rfl⟩ := own_slice hown
            have hxa := (Ext.refl w7).alloc (.cells #[.int .i64 m, .bool true] 43)
            have HSa := HS7.out.extend hxa
            have hgrow : (w7.alloc (.cells #[.int .i64 m, .bool true] 43)).grownBy w8 (Value.slice oR regs.length cR).ownBlock := hgrow
            have hlen : (regs ++ [(⟨m, true⟩ : LReg)]).length = regs.length + 1 := by simp
            have HS8 : Hid (TSt w0 (w8.setCell ⟨g, 0, none⟩ (.slice oR2 (regs.length + 1) cR2)) B g 50 (.slice oR2 (regs.length + 1) cR2) (.slice oC code.length cC) (regs ++ [⟨m, true⟩]) code) := Lib.hid (HSa.regs_ hgrow (by rw [hlen, List.flatMap_append]; simpa using hown) (fun r hr => by rcases List.mem_append.1 hr with h | h; exact HS7.out.fr r h; rw [List.mem_singleton.1 h]; exact Hm.out))
            have hb8 := HSa.box.grown hgrow (own_ne HSa.rg HSa.box HSa.nr)
            have p0 : w8.cell? ⟨g, 0, none⟩ = some (.slice oR regs.length cR) ∧ w8.frozen? ⟨g, 0, none⟩ = false := ⟨by rw [hb8.cell]; rfl, hb8.frozen _⟩
            have hgo8 := hb8.lt
            clear hown hgrow hxa HSa hb8 hlen hgl
            go_wp2
            go_ret
            rcases Hok.out with ⟨rfl, hok⟩ | ⟨rfl, hok⟩
            · exact LinePost.yes (by rw [HLp.out, if_neg HC.out, hok, Option.map_some, HD.out]) HS8.out (by simp; omega)
            · exact LinePost.no (by rw [HLp.out, if_neg HC.out, hok]; rfl) HS8.out.ext
          case neg =>
            have HN : Hid (lineP ⟨regs, code⟩ l = none) := Lib.hid (by rw [HLp.out, if_pos (.inr (.inr ⟨hp, hq⟩))])
            have hpl : ¬ x2 = [112, 117, 98, 108, 105, 99] := hp
            have hql : ¬ x2 = [115, 101, 99, 114, 101, 116] := hq
            have qpe : (x2 == [112, 117, 98, 108, 105, 99]) = false := by simpa using hpl
            have qse : (x2 == [115, 101, 99, 114, 101, 116]) = false := by simpa using hql
            clear hp hq
            go_wp2
            go_ret
            exact LinePost.no HN.out HS5.out.ext
set_option maxRecDepth 100000 in
set_option maxHeartbeats 16000000 in
theorem parse_c (s : List UInt8) (hs : s.length ≤ 1000000000) (w : World) (ht : Tab9 w) :
    Calls Tryd.prog 10 #[str s] w (ParsePost s w) := by
  obtain ⟨L, hL⟩ : ∃ L, splitT 10 s = L := ⟨_, rfl⟩
  have HL := Lib.hid hL
  obtain ⟨n, hn⟩ : ∃ n, L.length = n + 1 := ⟨L.length - 1, by have := splitT_len 10 s; rw [hL] at this; omega⟩
  have hn9 : n ≤ 1000000000 := by have := splitT_len 10 s; have h2 := List.count_le_length (a := (10 : UInt8)) (l := s); rw [hL] at this; omega
  have Hn := Lib.hid hn
  have HLp : Hid (∀ x ∈ L, x.length ≤ 1000000000) := Lib.hid (fun x hx => by rw [← hL] at hx; have := part_le 10 s x hx; omega)
  have HP0 : Hid (parseGo (L.drop 0) 0 ⟨[], []⟩ = parseT s) := Lib.hid (by unfold parseT; rw [hL]; rfl)
  have hwe : wrap64 ((L.length : Int) - 1) = (n : Int) := by rw [hn]; unfold wrap64; omega
  have Ht := Lib.hid ht
  have HSp := Lib.hid fun W (X : Ext w W) => split_c 10 s hs W (Ht.out.ext X)
  clear hL hn hs ht
  go_enter Tryd.func10, Tryd.ntmps10
  go_upto_region 1 with fail
  obtain ⟨W, g, hg, hW, hx, bR, bF⟩ := blocks2 w #[.slice none 0 0, .slice none 0 0] #[.int .i64 0, .int .i64 0] 25 32
  rw [hW, hg]
  have X := Lib.hid hx
  have Hg : Hid (w.heap.size ≤ g) := Lib.hid (by omega)
  have BR := Lib.hid bR
  have BF := Lib.hid bF
  clear hW hg hx bR bF
  go_wp2_with fail
  (with_reducible refine (HSp.out W X.out).mono ?_)
  rintro e w1 ⟨v, rfl, hv, hx⟩
  rw [HL.out] at hv
  obtain ⟨kL, capL, rfl, hcL, hcmL, hkL, hcells⟩ := hv
  have X1 := Lib.hid (X.out.trans hx)
  have HcL := Lib.hid fun W' (Y : Ext w1 W') j hj => Y.kept (hcells j hj)
  have BR1 := Lib.hid (BR.out.ext hx)
  have BF1 := Lib.hid (BF.out.ext hx)
  have hixL := index_strs (oa := some ⟨kL, 0, none⟩) (n := L.length) (b := kL) (o := 0) (cap := capL) (fun _ => rfl)
  have hixn := index_strs (oa := some ⟨kL, 0, none⟩) (n := n) (b := kL) (o := 0) (cap := capL) (fun _ => rfl)
  have hnL : n ≤ L.length := by have := Hn.out; omega
  have hncap : n ≤ capL := by omega
  clear hcells hx BR BF
  go_upto_region 4 with fail
  obtain ⟨w4, go, hgo, hW, hx, bP⟩ := block1 w1 #[.slice none 0 0, .slice none 0 0] 50
  rw [hW, hgo]
  have HS0 : Hid (TSt w1 w4 w1.heap.size go 50 (.slice none 0 0) (.slice none 0 0) [] []) := Lib.hid ⟨bP, World.ownsRow_nil _ _ _ _, World.ownsRow_nil _ _ _ _, hx, by omega, Nat.le_refl _, by decide, by decide, by simp, by simp⟩
  clear hW hgo hx bP
  simp only [hwe]
  go_wp2_with fail
  go_loopw [20] (fun kv wr => ∃ (k : Nat) (vR vC : Value) (regs : List LReg) (code : List LIns), kv = .int .i64 (k : Int) ∧ k ≤ n ∧ regs.length + code.length ≤ k ∧ TSt w1 wr w1.heap.size go 50 vR vC regs code ∧ parseGo (L.drop k) k ⟨regs, code⟩ = parseT s) (fun kv _ => n - (intOf kv).toNat)
  case atStart => exact ⟨0, _, _, [], [], rfl, by omega, by simp, HS0.out, HP0.out⟩
  case round =>
    obtain ⟨k, vR, vC, regs, code, rfl, hk, hrc, hS, hP⟩ := hrel
    have HS := Lib.hid hS
    have HPk := Lib.hid hP
    have Ht1 := Lib.hid (Ht.out.ext (X1.out.trans hS.ext))
    have hgol := hS.box.lt
    have hkLr := Nat.lt_of_lt_of_le hkL hS.ext.size
    clear hP hS
    by_cases hlt : k < n
    case pos =>
      have hkL1 : k + 1 < L.length := by have := Hn.out; omega
      have Hst := Lib.hid (go_at (⟨regs, code⟩ : LProg) hkL1)
      rw [HPk.out] at Hst
      have c0 := HcL.out wr HS.out.ext k (by omega)
      have hkin : (k : Int) < (n : Int) := by omega
      have Hll := Lib.hid (HLp.out (L.getD k []) (getD_in (by omega)))
      clear hkL1
      generalize L.getD k [] = l at *
      go_wp2_with fail
      (with_reducible refine (line_c9 l Hll.out w1 wr _ go _ _ regs code HS.out (by omega) Ht1.out).mono ?_)
      rintro e w5 ⟨b, rfl, hb⟩
      clear c0 hgol hkLr
      rcases hb with ⟨rfl, q, vR2, vC2, hl, hS5, hq⟩ | ⟨rfl, hl, hx5⟩
      · have HN : Hid (parseGo (L.drop (k + 1)) (k + 1) ⟨q.regs, q.code⟩ = parseT s) := Lib.hid (by rw [Hst.out, hl])
        have HS5 := Lib.hid hS5
        have hq2 : q.regs.length + q.code.length ≤ k + 1 := by omega
        clear hl hS5 hq
        go_wp2
        go_roundw
        case rel => exact ⟨k + 1, _, _, q.regs, q.code, by go_num, by omega, hq2, HS5.out, HN.out⟩
        case measure => first | (simp [intOf]; done) | (simp [intOf]; omega)
      · have HN : Hid (parseT s = (⟨[], []⟩, 2, (k : Int))) := Lib.hid (by rw [Hst.out, hl])
        have bR := BR1.out.ext hx5
        have bF := BF1.out.ext hx5
        have r0 := (⟨by rw [bR.cell]; rfl, bR.frozen _⟩ : w5.cell? ⟨g, 0, none⟩ = some (.slice none 0 0) ∧ w5.frozen? ⟨g, 0, none⟩ = false)
        have r1 := (⟨by rw [bR.cell]; rfl, bR.frozen _⟩ : w5.cell? ⟨g, 1, none⟩ = some (.slice none 0 0) ∧ w5.frozen? ⟨g, 1, none⟩ = false)
        have f0 := (⟨by rw [bF.cell]; rfl, bF.frozen _⟩ : w5.cell? ⟨g + 1, 0, none⟩ = some (.int .i64 0) ∧ w5.frozen? ⟨g + 1, 0, none⟩ = false)
        have f1 := (⟨by rw [bF.cell]; rfl, bF.frozen _⟩ : w5.cell? ⟨g + 1, 1, none⟩ = some (.int .i64 0) ∧ w5.frozen? ⟨g + 1, 1, none⟩ = false)
        have HB := Lib.hid (And.intro bR bF)
        have hgl := bF.lt
        have hgl0 := bR.lt
        have X5 := Lib.hid hx5
        clear bR bF hl hx5
        go_wp2
        refine bodyPost_ret (results_cc (put4_t HB.out.1 HB.out.2).1 (put4_t HB.out.1 HB.out.2).2 rfl _ rfl rfl Tryd.underlying25 rfl infoProgT Tryd.underlying32 rfl infoFaultT) rfl ?_
        exact ParsePost.no HN.out (ext4_t (X1.out.trans X5.out) Hg.out)
    case neg =>
      obtain rfl : k = n := by omega
      have Hst := Lib.hid (go_end (⟨regs, code⟩ : LProg) Hn.out)
      rw [HPk.out] at Hst
      have c0 := HcL.out wr HS.out.ext k (by have := Hn.out; omega)
      have hkin : (k : Int) < (L.length : Int) := by have := Hn.out; omega
      generalize L.getD k [] = l at *
      obtain ⟨oR, cR, rfl⟩ := own_slice HS.out.rg
      obtain ⟨oC, cC, rfl⟩ := own_slice HS.out.cd
      obtain ⟨d0, d1⟩ := HS.out.cells
      have HR := Lib.hid fun W (Y : Ext wr W) => hard_c ⟨regs, code⟩ _ W (HS.out.prog.ext Y)
      by_cases he : l = []
      case neg =>
        have q : (l != []) = true := by simpa using he
        have HN : Hid (parseT s = (⟨[], []⟩, 2, (k : Int))) := Lib.hid (by rw [Hst.out, if_neg (fun h => he h.1)])
        clear HR
        have bR := BR1.out.ext HS.out.ext
        have bF := BF1.out.ext HS.out.ext
        have r0 := (⟨by rw [bR.cell]; rfl, bR.frozen _⟩ : wr.cell? ⟨g, 0, none⟩ = some (.slice none 0 0) ∧ wr.frozen? ⟨g, 0, none⟩ = false)
        have r1 := (⟨by rw [bR.cell]; rfl, bR.frozen _⟩ : wr.cell? ⟨g, 1, none⟩ = some (.slice none 0 0) ∧ wr.frozen? ⟨g, 1, none⟩ = false)
        have f0 := (⟨by rw [bF.cell]; rfl, bF.frozen _⟩ : wr.cell? ⟨g + 1, 0, none⟩ = some (.int .i64 0) ∧ wr.frozen? ⟨g + 1, 0, none⟩ = false)
        have f1 := (⟨by rw [bF.cell]; rfl, bF.frozen _⟩ : wr.cell? ⟨g + 1, 1, none⟩ = some (.int .i64 0) ∧ wr.frozen? ⟨g + 1, 1, none⟩ = false)
        have HB := Lib.hid (And.intro bR bF)
        have hgl := bF.lt
        have hgl0 := bR.lt
        clear bR bF
        go_wp2
        refine bodyPost_ret (results_cc (put4_t HB.out.1 HB.out.2).1 (put4_t HB.out.1 HB.out.2).2 rfl _ rfl rfl Tryd.underlying25 rfl infoProgT Tryd.underlying32 rfl infoFaultT) rfl ?_
        exact ParsePost.no HN.out (ext4_t (X1.out.trans HS.out.ext) Hg.out)
      case pos =>
        have q : (l != []) = false := by simpa using he
        go_wp2_with fail
        (with_reducible refine (HR.out wr (Ext.refl _)).mono ?_)
        rintro e w5 ⟨rfl, hx⟩
        have HS5 := Lib.hid (HS.out.extend hx)
        clear hx d0 d1 c0 hgol hkLr HR
        obtain ⟨d0, d1⟩ := HS5.out.cells
        have hgol := HS5.out.box.lt
        have bR := BR1.out.ext HS5.out.ext
        have bF := BF1.out.ext HS5.out.ext
        have r0 := (⟨by rw [bR.cell]; rfl, bR.frozen _⟩ : w5.cell? ⟨g, 0, none⟩ = some (.slice none 0 0) ∧ w5.frozen? ⟨g, 0, none⟩ = false)
        have r1 := (⟨by rw [bR.cell]; rfl, bR.frozen _⟩ : w5.cell? ⟨g, 1, none⟩ = some (.slice none 0 0) ∧ w5.frozen? ⟨g, 1, none⟩ = false)
        have f0 := (⟨by rw [bF.cell]; rfl, bF.frozen _⟩ : w5.cell? ⟨g + 1, 0, none⟩ = some (.int .i64 0) ∧ w5.frozen? ⟨g + 1, 0, none⟩ = false)
        have f1 := (⟨by rw [bF.cell]; rfl, bF.frozen _⟩ : w5.cell? ⟨g + 1, 1, none⟩ = some (.int .i64 0) ∧ w5.frozen? ⟨g + 1, 1, none⟩ = false)
        have HB := Lib.hid (And.intro bR bF)
        have hgl := bF.lt
        have hgl0 := bR.lt
        clear bR bF
        cases hh : hardOk ⟨regs, code⟩
        case false =>
          have HN : Hid (parseT s = (⟨[], []⟩, 2, (k : Int))) := Lib.hid (by rw [Hst.out, if_neg (fun h => by rw [hh] at h; exact Bool.noConfusion h.2)])
          go_wp2
          refine bodyPost_ret (results_cc (put4_t HB.out.1 HB.out.2).1 (put4_t HB.out.1 HB.out.2).2 rfl _ rfl rfl Tryd.underlying25 rfl infoProgT Tryd.underlying32 rfl infoFaultT) rfl ?_
          exact ParsePost.no HN.out (ext4_t (X1.out.trans HS5.out.ext) Hg.out)
        case true =>
          have HN : Hid (parseT s = (⟨regs, code⟩, 0, 0)) := Lib.hid (by rw [Hst.out, if_pos ⟨he, hh⟩])
          go_wp2
          refine bodyPost_ret (results_cc (put4_t HB.out.1 HB.out.2).1 (put4_t HB.out.1 HB.out.2).2 rfl _ rfl rfl Tryd.underlying25 rfl infoProgT Tryd.underlying32 rfl infoFaultT) rfl ?_
          exact ParsePost.yes HN.out (put_prog HS5.out HB.out.1 HB.out.2) HS5.out.fc (ext4_t (X1.out.trans HS5.out.ext) Hg.out)
end Go.Proofs.YtkkekbnhndfhjaaDoor
