/- Laid together from: Txc, Txg. -/
import Derived.Test.YtkkekbnhndfhjaaDoorTextParsesB28
import Derived.Test.YtkkekbnhndfhjaaDoorTextParsesB7
import Derived.Test.YtkkekbnhndfhjaaDoorTextParsesB10
import Derived.Lib.SmallJoins
import Derived.Test.YtkkekbnhndfhjaaDoorTextParsesB27

namespace Go.Proofs.YtkkekbnhndfhjaaDoor
open Go.ChangeShapes Go.WideShapes Go.ChangeAt Go.RowKit
set_option linter.unusedVariables false
set_option linter.unusedSimpArgs false
structure Tab9 (w : World) : Prop where
  tabs : Tabs w
  max : ∃ m, w.cell? ⟨0, 0, none⟩ = some (.int .i64 m)
  syn : ∃ ev, w.cell? ⟨6, 0, none⟩ = some ev ∧ (ev = .nilIface ∨ ∃ te pe, ev = .iface te pe)
  rng : ∃ ev, w.cell? ⟨7, 0, none⟩ = some ev ∧ (ev = .nilIface ∨ ∃ te pe, ev = .iface te pe)
theorem Tab9.ext {w w' : World} (h : Tab9 w) (hx : Ext w w') : Tab9 w' := by
  obtain ⟨h1, ⟨m, h2⟩, ⟨a, h3, h3'⟩, ⟨b, h4, h4'⟩⟩ := h
  exact ⟨h1.ext hx, ⟨m, hx.kept h2⟩, ⟨a, hx.kept h3, h3'⟩, ⟨b, hx.kept h4, h4'⟩⟩
def StrsAt (w : World) (v : Value) (L : List (List UInt8)) : Prop := ∃ k cap, v = .slice (some ⟨k, 0, none⟩) L.length cap ∧ L.length ≤ cap ∧ cap ≤ maxLen ∧ k < w.heap.size ∧ ∀ j, j < L.length → w.cell? ⟨k, j, none⟩ = some (str (L.getD j []))
theorem StrsAt.ext {w w' : World} {v : Value} {L : List (List UInt8)} (h : StrsAt w v L) (hx : Ext w w') : StrsAt w' v L := by
  obtain ⟨k, cap, h1, h2, h2', h3, h4⟩ := h
  exact ⟨k, cap, h1, h2, h2', Nat.lt_of_lt_of_le h3 hx.size, fun j hj => hx.kept (h4 j hj)⟩
def SplitPost (c : UInt8) (s : List UInt8) (w : World) (e : Ending) (w' : World) : Prop := ∃ v, e = .returned v ∧ StrsAt w' v (splitT c s) ∧ Ext w w'
theorem toB (x : ByteArray) : (⟨x.data.toList.toArray⟩ : ByteArray) = x := by
  obtain ⟨⟨l⟩⟩ := x
  rfl
theorem split_c (c : UInt8) (s : List UInt8) (hs : s.length ≤ 1000000000) (w : World) (ht : Tab9 w) :
    Calls Tryd.prog 19 #[str s, str [c]] w (SplitPost c s w) := by
  obtain ⟨m, hm⟩ := ht.max
  refine (Tryd.strings_Split ⟨s.toArray⟩ ⟨[c].toArray⟩ m w (by rw [str_size]; omega) hm (by rw [str_size]; simp)).mono ?_
  rintro e w' ⟨rfl, rfl⟩
  have hn : Lib.countB ⟨s.toArray⟩ ⟨[c].toArray⟩ = s.count c := by
    have : Lib.countB ⟨s.toArray⟩ ⟨[c].toArray⟩ = Lib.count s [c] := rfl
    rw [this, Lib.count_one]
  have hd : (Lib.splitB ⟨[c].toArray⟩ 0 (s.count c) ⟨s.toArray⟩).map (·.data.toList) = splitT c s := by
    rw [Lib.splitB_data]
    exact splitK_eq c _ s (Nat.le_refl _)
  have hL : (Lib.splitB ⟨[c].toArray⟩ 0 (s.count c) ⟨s.toArray⟩).map Value.string = (splitT c s).map str := by
    rw [← hd, List.map_map]
    apply List.map_congr_left
    intro x _
    show Value.string x = Value.string ⟨x.data.toList.toArray⟩
    rw [toB]
  have hl := splitT_len c s
  have hcl := List.count_le_length (a := c) (l := s)
  rw [hn, hL, ← hl]
  refine ⟨_, rfl, ⟨w.heap.size, _, rfl, Nat.le_refl _, by unfold maxLen; omega, (Blk.new w 9 ((splitT c s).map str).toArray).lt, fun j hj => ?_⟩, (Ext.refl w).alloc _⟩
  rw [(Blk.new w 9 ((splitT c s).map str).toArray).cell]
  simp [hj]
def PIntPost (s : List UInt8) (w : World) (e : Ending) (w' : World) : Prop :=
  ∃ n ev, e = .returned (.tuple #[.int .i64 n, ev]) ∧ R64 n ∧ ((Lib.parseIntB 64 s = .ok n ∧ ev = .nilIface) ∨ ((∀ v, Lib.parseIntB 64 s ≠ .ok v) ∧ ∃ t p, ev = .iface t p)) ∧ Ext w w'
theorem pint_c (s : List UInt8) (hs : s.length ≤ 1000000000) (w : World) (ht : Tab9 w) :
    Calls Tryd.prog 51 #[str s, .int .i64 10, .int .i64 64] w (PIntPost s w) := by
  have hz : (⟨s.toArray⟩ : ByteArray).size ≤ 281474976710656 := by rw [str_size]; omega
  have hl : (⟨s.toArray⟩ : ByteArray).data.toList = s := by simp
  rcases hp : Lib.parseIntB 64 s with v | _ | _
  · refine (Tryd.strconv_ParseInt_10_at64_ok ⟨s.toArray⟩ (by omega) v (by rw [hl]; exact hp) w).mono ?_
    rintro e w' ⟨rfl, hw⟩
    have hb := Lib.parseIntB_bounds hp
    refine ⟨v, .nilIface, rfl, ⟨by simpa using hb.1, by have := hb.2; simp at this; omega⟩, .inl ⟨hp, rfl⟩, ?_⟩
    rcases hw with rfl | ⟨t, rfl⟩
    · exact Ext.refl _
    · exact Lib.bytesWorld_below _ _ _
  · obtain ⟨ev, hv, hev⟩ := ht.syn
    have hne : (∀ v, Lib.parseIntB 64 s ≠ .ok v) ∧ Lib.parseIntB 64 s ≠ .range := by rw [hp]; simp
    refine (Tryd.strconv_ParseInt_10_at64_syntax ⟨s.toArray⟩ hz (Lib.parseIntB 64 s) (by rw [hl]) hne ev w hv hev).mono ?_
    rintro e w' ⟨N, rfl, -, -, hb⟩
    exact ⟨0, _, rfl, ⟨by omega, by omega⟩, .inr ⟨by rw [hp]; simp, _, _, rfl⟩, hb⟩
  · obtain ⟨ev, hv, hev⟩ := ht.rng
    refine (Tryd.strconv_ParseInt_10_at64_range ⟨s.toArray⟩ hz (by rw [hl]; exact hp) ev w hv hev).mono ?_
    rintro e w' ⟨N, rfl, -, -, hb⟩
    refine ⟨_, _, rfl, ?_, .inr ⟨by rw [hp]; simp, _, _, rfl⟩, hb⟩
    unfold Lib.intSat
    split
    · exact ⟨by simp, by simp⟩
    · exact ⟨by simp, by simp⟩
def NumPost (s : List UInt8) (most : Nat) (w : World) (e : Ending) (w' : World) : Prop :=
  ∃ n b, e = .returned (.tuple #[.int .i64 n, .bool b]) ∧ R64 n ∧ ((b = true ∧ numT s most = some n) ∨ (b = false ∧ numT s most = none)) ∧ Ext w w'
set_option maxHeartbeats 4000000 in
theorem number_c (s : List UInt8) (most : Nat) (hm : most ≤ 19) (hs : s.length ≤ 1000000000) (w : World) (ht : Tab9 w) :
    Calls Tryd.prog 36 #[str s, .int .i64 most] w (NumPost s most w) := by
  have Ht := Lib.hid ht
  have C := Lib.hid fun W (X : Ext w W) => pint_c s hs W (Ht.out.ext X)
  have F := Lib.hid fun n (hn : R64 n) W (X : Ext w W) => fmt_c n hn W (Ht.out.tabs.ext X)
  have T := Lib.hid fun W => Tryd.strings_TrimPrefix ⟨s.toArray⟩ ⟨[45].toArray⟩ W
  have hl : (⟨s.toArray⟩ : ByteArray).data.toList = s := by simp
  have hl2 : (⟨([45] : List UInt8).toArray⟩ : ByteArray).data.toList = [45] := by simp
  rw [hl, hl2] at T
  have htl : (Lib.trimPrefix s [45]).length ≤ 1000000000 := by
    rw [trim_minus]
    split
    · rw [List.length_drop]; omega
    · exact hs
  have Hn := Lib.hid (show numT s most = numT s most from rfl)
  clear ht hl hl2
  go_enter Tryd.func36, Tryd.ntmps36
  go_wp2_with fail
  (with_reducible refine (C.out w (Ext.refl w)).mono ?_)
  rintro e w1 ⟨n, ev, rfl, hr, hc, hx⟩
  have X := Lib.hid hx
  clear hx
  rcases hc with ⟨hp, rfl⟩ | ⟨hp, t, p, rfl⟩
  · have HN : Hid (numT s most = if Lib.itoa n = s ∧ (Lib.trimPrefix s [45]).length ≤ most then some n else none) := Lib.hid (by unfold numT; rw [hp])
    clear hp
    go_wp2_with fail
    (with_reducible refine (F.out n hr _ X.out).mono ?_)
    rintro e w2 ⟨rfl, hx⟩
    have X := Lib.hid (X.out.trans hx)
    clear hx
    by_cases he : Lib.itoa n = s
    · have q : (Lib.itoa n == s) = true := by simpa using he
      go_wp2_with fail
      (with_reducible refine (T.out _).mono ?_)
      rintro e w3 ⟨rfl, rfl⟩
      generalize Lib.trimPrefix s [45] = M at *
      have hsz := str_size M
      by_cases hM : M.length ≤ most
      · go_wp2
        go_ret2
        exact ⟨n, true, rfl, hr, .inl ⟨rfl, by rw [HN.out, if_pos ⟨he, hM⟩]⟩, X.out⟩
      · go_wp2
        go_ret2
        exact ⟨n, false, rfl, hr, .inr ⟨rfl, by rw [HN.out, if_neg (fun h => hM h.2)]⟩, X.out⟩
    · have q : (Lib.itoa n == s) = false := by simpa using he
      go_wp2
      go_ret2
      exact ⟨n, false, rfl, hr, .inr ⟨rfl, by rw [HN.out, if_neg (fun h => he h.1)]⟩, X.out⟩
  · have HN : Hid (numT s most = none) := Lib.hid (by
      unfold numT
      split
      · rename_i v hv
        exact absurd hv (hp v)
      · rfl)
    clear hp
    go_wp2
    go_ret2
    exact ⟨n, false, rfl, hr, .inr ⟨rfl, HN.out⟩, X.out⟩
abbrev insTV (i : LIns) : Array Value := #[.int .i64 i.op, .int .i64 i.a, .int .i64 i.b, .int .i64 i.c, .int .i64 i.n]
theorem cells5 {W : World} {g T : Nat} {a b c d e : Value} (h : Blk W g T #[a, b, c, d, e]) : (W.cell? ⟨g, 0, none⟩ = some a ∧ W.frozen? ⟨g, 0, none⟩ = false) ∧ (W.cell? ⟨g, 1, none⟩ = some b ∧ W.frozen? ⟨g, 1, none⟩ = false) ∧ (W.cell? ⟨g, 2, none⟩ = some c ∧ W.frozen? ⟨g, 2, none⟩ = false) ∧ (W.cell? ⟨g, 3, none⟩ = some d ∧ W.frozen? ⟨g, 3, none⟩ = false) ∧ (W.cell? ⟨g, 4, none⟩ = some e ∧ W.frozen? ⟨g, 4, none⟩ = false) :=
  ⟨⟨by rw [h.cell]; rfl, h.frozen _⟩, ⟨by rw [h.cell]; rfl, h.frozen _⟩, ⟨by rw [h.cell]; rfl, h.frozen _⟩, ⟨by rw [h.cell]; rfl, h.frozen _⟩, ⟨by rw [h.cell]; rfl, h.frozen _⟩⟩
theorem ins5 {W : World} {g T : Nat} {a b c d e : Value} (h : Blk W g T #[a, b, c, d, e]) (u0 u1 u2 u3 u4 : Value) : Blk (((((W.setCell ⟨g, 0, none⟩ u0).setCell ⟨g, 1, none⟩ u1).setCell ⟨g, 2, none⟩ u2).setCell ⟨g, 3, none⟩ u3).setCell ⟨g, 4, none⟩ u4) g T #[u0, u1, u2, u3, u4] :=
  ((((h.set_ 0 u0).set_ 1 u1).set_ 2 u2).set_ 3 u3).set_ 4 u4
theorem ext5 {w W : World} {g : Nat} (h : Ext w W) (hg : w.heap.size ≤ g) (u0 u1 u2 u3 u4 : Value) : Ext w (((((W.setCell ⟨g, 0, none⟩ u0).setCell ⟨g, 1, none⟩ u1).setCell ⟨g, 2, none⟩ u2).setCell ⟨g, 3, none⟩ u3).setCell ⟨g, 4, none⟩ u4) :=
  ((((h.setCell (p := ⟨g, 0, none⟩) hg u0).setCell (p := ⟨g, 1, none⟩) hg u1).setCell (p := ⟨g, 2, none⟩) hg u2).setCell (p := ⟨g, 3, none⟩) hg u3).setCell (p := ⟨g, 4, none⟩) hg u4
def ReadPost (ws : List (List UInt8)) (w : World) (e : Ending) (w' : World) : Prop :=
  ∃ (i : LIns) (b : Bool), e = .returned (.tuple #[.agg (insTV i), .bool b]) ∧ ((b = true ∧ readT ws = some i ∧ i.fits) ∨ (b = false ∧ readT ws = none)) ∧ Ext w w'
theorem ReadPost.no {ws : List (List UInt8)} {w w' : World} (i : LIns) (h : readT ws = none) (hx : Ext w w') : ReadPost ws w (.returned (.tuple #[.agg (insTV i), .bool false])) w' := ⟨i, false, rfl, .inr ⟨rfl, h⟩, hx⟩
theorem ReadPost.yes {ws : List (List UInt8)} {w w' : World} (i : LIns) (h : readT ws = some i) (hf : i.fits) (hx : Ext w w') : ReadPost ws w (.returned (.tuple #[.agg (insTV i), .bool true])) w' := ⟨i, true, rfl, .inl ⟨rfl, h, hf⟩, hx⟩
theorem op_some {ws : List (List UInt8)} {o c : Int} (h : opT (ws.getD 0 []) = some (o, c)) : (o, c) ∈ allO ∧ ws.getD 0 [] ≠ [] ∧ opIs o ∧ readT ws = if ws.length = (followT o).length + 1 then readA (followT o) (ws.drop 1) ⟨o, 0, 0, c, 0⟩ else none := by
  obtain ⟨hm, hw⟩ := op_mem h
  have hne : ∀ x ∈ allO, wordT x.1 x.2 ≠ [] := by decide +kernel
  refine ⟨hm, by rw [← hw]; exact hne _ hm, ?_, by unfold readT; rw [h]⟩
  have := (all_facts _ hm).1
  unfold opIs
  exact this
theorem setT_fits {i : LIns} (h : i.fits) (f : UInt8) {n : Int} (hn : R64 n) : (setT i f n).fits := by
  obtain ⟨h1, h2, h3, h4, h5⟩ := h
  unfold setT
  repeat' split
  · exact ⟨h1, hn, h3, h4, h5⟩
  · exact ⟨h1, h2, hn, h4, h5⟩
  · exact ⟨h1, h2, h3, hn, h5⟩
  · exact ⟨h1, h2, h3, h4, hn⟩
theorem readA_step {F : List UInt8} {ws : List (List UInt8)} {k : Nat} {i : LIns} {x : UInt8} {W : List UInt8} (hx : F[k]? = some x) (hw : ws[k + 1]? = some W) :
    readA (F.drop k) (ws.drop (k + 1)) i = (argT x W).bind fun n => readA (F.drop (k + 1)) (ws.drop (k + 1 + 1)) (setT i x n) := by
  obtain ⟨h1, rfl⟩ := List.getElem?_eq_some_iff.1 hx
  obtain ⟨h2, rfl⟩ := List.getElem?_eq_some_iff.1 hw
  rw [List.drop_eq_getElem_cons h1, List.drop_eq_getElem_cons h2]
  rfl
theorem tail_str (b : UInt8) (r : List UInt8) (k : Nat) (hk : k = (b :: r).length) : ((⟨(b :: r).toArray⟩ : ByteArray).extract 1 k) = ⟨r.toArray⟩ := by
  subst hk
  apply ByteArray.ext
  rw [ByteArray.data_extract]
  simp
theorem zero_fits (o c : Int) (h : (o, c) ∈ allO) : LIns.fits ⟨o, 0, 0, c, 0⟩ := by
  have := all_facts _ h
  have h2 : 0 ≤ c ∧ c ≤ 4 := by
    by_cases e : o = 8
    · have := this.2.1 e; simp only at this; omega
    · have := this.2.2 e; simp only at this; omega
  have h1 := this.1
  simp only at h1
  exact ⟨⟨by simp only; omega, by simp only; omega⟩, ⟨by simp, by simp⟩, ⟨by simp, by simp⟩, ⟨by simp only; omega, by simp only; omega⟩, ⟨by simp, by simp⟩⟩
theorem rnumber18 (s : List UInt8) (hs : s.length ≤ 1000000000) (w : World) : Calls Tryd.prog 22 #[str s, .int .i64 18] w (RNumPost s 18 w) := rnumber_c s 18 (by omega) hs w
theorem rnumber19 (s : List UInt8) (hs : s.length ≤ 1000000000) (w : World) : Calls Tryd.prog 22 #[str s, .int .i64 19] w (RNumPost s 19 w) := rnumber_c s 19 (by omega) hs w
set_option maxRecDepth 100000 in
set_option maxHeartbeats 16000000 in
theorem rread_c (ws : List (List UInt8)) (v : Value) (w : World) (hv : StrsAt w v ws) (h1 : 1 ≤ ws.length) (hw : ∀ x ∈ ws, x.length ≤ 1000000000) :
    Calls Tryd.prog 23 #[v] w (ReadPost ws w) := by
  obtain ⟨kk, cap, rfl, hcap, hcm, hkk, hcell⟩ := hv
  have Hcell := Lib.hid fun W (X : Ext w W) j hj => X.kept (hcell j hj)
  have Hw := Lib.hid hw
  obtain ⟨w0, hw0⟩ : ∃ x, ws.getD 0 [] = x := ⟨_, rfl⟩
  have Hc0 := Lib.hid fun W (X : Ext w W) => X.kept (hcell 0 (by omega))
  rw [hw0] at Hc0
  have Hw0 := Lib.hid hw0
  have HO := Lib.hid fun W => rop_c w0 W
  have hix := index_strs (oa := some ⟨kk, 0, none⟩) (n := ws.length) (b := kk) (o := 0) (cap := cap) (fun _ => rfl)
  clear hcell hw hw0
  have hwe : wrap64 ((ws.length : Int) - 1) = (ws.length : Int) - 1 := by have := len_bd hcap hcm; unfold wrap64; omega
  go_enter Tryd.func23, Tryd.ntmps23
  have k0 := Hc0.out w (Ext.refl w)
  have hkk0 := hkk
  go_wp2_with fail
  obtain ⟨W, g, hg, hW, hx, b2, b4⟩ := blocks2 w #[.int .i64 0, .int .i64 0, .int .i64 0, .int .i64 0, .int .i64 0] #[.int .i64 0, .int .i64 0, .int .i64 0, .int .i64 0, .int .i64 0] 46 46
  rw [hW, hg]
  have X := Lib.hid hx
  have Hg2 : Hid (w.heap.size ≤ g) := Lib.hid (by omega)
  have Hg4 : Hid (w.heap.size ≤ g + 1) := Lib.hid (by omega)
  have hgk : kk ≠ g := by omega
  have hgk4 : kk ≠ g + 1 := by omega
  clear hW hg hx k0
  (with_reducible refine (HO.out W).mono ?_)
  clear HO
  rintro e w1 ⟨rfl, hx⟩
  have X := Lib.hid (X.out.trans hx)
  replace b2 := b2.ext hx
  replace b4 := b4.ext hx
  clear hx
  generalize w1 = W at *
  have hg2l := b2.lt
  have hg4l := b4.lt
  have hkl := Nat.lt_of_lt_of_le hkk X.out.size
  obtain ⟨r0, r1, r2, r3, r4⟩ := cells5 b2
  obtain ⟨c0, c1, c2, c3, c4⟩ := cells5 b4
  have k0 := Hc0.out W X.out
  cases ho : opT w0 with
  | none =>
    have HN : Hid (readT ws = none) := Lib.hid (by unfold readT; rw [Hw0.out, ho])
    simp only [ho, Option.getD_none] at *
    have hBk := Lib.hid (ins5 b2 (.int .i64 0) (.int .i64 0) (.int .i64 0) (.int .i64 0) (.int .i64 0))
    have XX := Lib.hid (ext5 X.out Hg2.out (.int .i64 0) (.int .i64 0) (.int .i64 0) (.int .i64 0) (.int .i64 0))
    clear b2 b4
    go_wp2
    exact bodyPost_ret (resultsT_cb (v := .bool false) hBk.out rfl _ rfl rfl Tryd.underlying46 rfl (by kernel_rfl)) rfl (ReadPost.no ⟨0, 0, 0, 0, 0⟩ HN.out XX.out)
  | some x =>
    obtain ⟨o, c⟩ := x
    obtain ⟨hm, hne, hoi, hR⟩ := op_some (ws := ws) (by rw [Hw0.out]; exact ho)
    rw [Hw0.out] at hne
    have HR := Lib.hid hR
    have Hz := Lib.hid (zero_fits o c hm)
    have HF := Lib.hid fun W => rFollows_c o hoi W
    obtain ⟨hFl, hFx⟩ := follow_ok o
    have HFx := Lib.hid hFx
    have ho0 : ¬ o < 0 := by unfold opIs at hoi; omega
    have hneb : (w0 == []) = false := by simpa using hne
    simp only [Option.getD_some] at *
    generalize followT o = F at *
    have b4 := (b4.set_ 0 (.int .i64 o)).set_ 3 (.int .i64 c)
    have X2 := Lib.hid ((X.out.setCell (p := ⟨g + 1, 0, none⟩) Hg4.out (.int .i64 o)).setCell (p := ⟨g + 1, 3, none⟩) Hg4.out (.int .i64 c))
    have b2 := (b2.far (p := ⟨g + 1, 0, none⟩) (by simp) (.int .i64 o)).far (p := ⟨g + 1, 3, none⟩) (by simp) (.int .i64 c)
    clear hm hne hoi hR ho hFx
    go_wp2_with fail
    generalize ((W.setCell ⟨g + 1, 0, none⟩ (.int .i64 o)).setCell ⟨g + 1, 3, none⟩ (.int .i64 c)) = W2 at *
    (with_reducible refine (HF.out W2).mono ?_)
    clear HF
    rintro e w3 ⟨rfl, hx⟩
    have X := Lib.hid (X2.out.trans hx)
    replace b2 := b2.ext hx
    replace b4 := b4.ext hx
    clear hx X2 r0 r1 r2 r3 r4 c0 c1 c2 c3 c4 k0
    clear hg2l hg4l hkl
    generalize w3 = W at *
    have hg2l := b2.lt
    have hg4l := b4.lt
    have hkl := Nat.lt_of_lt_of_le hkk X.out.size
    have hsz := str_size F
    by_cases hl : ws.length = F.length + 1
    case neg =>
      obtain ⟨r0, r1, r2, r3, r4⟩ := cells5 b2
      obtain ⟨c0, c1, c2, c3, c4⟩ := cells5 b4
      have HN : Hid (readT ws = none) := Lib.hid (by rw [HR.out, if_neg hl])
      have hlb : ((ws.length : Int) - 1 != (F.length : Int)) = true := by simpa using (show ¬ (ws.length : Int) - 1 = (F.length : Int) by omega)
      have hBk := Lib.hid (ins5 b2 (.int .i64 o) (.int .i64 0) (.int .i64 0) (.int .i64 c) (.int .i64 0))
      have XX := Lib.hid (ext5 X.out Hg2.out (.int .i64 o) (.int .i64 0) (.int .i64 0) (.int .i64 c) (.int .i64 0))
      clear b2 b4
      go_wp2
      exact bodyPost_ret (resultsT_cb (v := .bool false) hBk.out rfl _ rfl rfl Tryd.underlying46 rfl (by kernel_rfl)) rfl (ReadPost.no ⟨o, 0, 0, c, 0⟩ HN.out XX.out)
    case pos =>
      have HRr : Hid (readA (F.drop 0) (ws.drop (0 + 1)) ⟨o, 0, 0, c, 0⟩ = readT ws) := Lib.hid (by rw [HR.out, if_pos hl]; rfl)
      clear HR
      have hlb : ((ws.length : Int) - 1 != (F.length : Int)) = false := by simpa using (show (ws.length : Int) - 1 = (F.length : Int) by omega)
      have Hl := Lib.hid hl
      clear hl
      go_wp2_with fail
      simp only [hwe]
      go_loopw [8] (fun kv wr => ∃ (k : Nat) (i : LIns), k ≤ F.length ∧ kv = .int .i64 k ∧ Blk wr g 46 #[.int .i64 0, .int .i64 0, .int .i64 0, .int .i64 0, .int .i64 0] ∧ Blk wr (g + 1) 46 (insTV i) ∧ i.fits ∧ Ext w wr ∧ readA (F.drop k) (ws.drop (k + 1)) i = readT ws) (fun kv _ => F.length - (intOf kv).toNat)
      case atStart => exact ⟨0, ⟨o, 0, 0, c, 0⟩, by omega, rfl, b2, b4, Hz.out, X.out, HRr.out⟩
      case round =>
        obtain ⟨k, i, hk, rfl, b2, b4, hfi, hE, hR⟩ := hrel
        have X := Lib.hid hE
        have HR := Lib.hid hR
        have Hfi := Lib.hid hfi
        have hg2l := b2.lt
        have hg4l := b4.lt
        have hkl := Nat.lt_of_lt_of_le hkk hE.size
        obtain ⟨r0, r1, r2, r3, r4⟩ := cells5 b2
        obtain ⟨c0, c1, c2, c3, c4⟩ := cells5 b4
        obtain ⟨io, ia, ib, ic, inn⟩ := i
        simp only at b4 c0 c1 c2 c3 c4
        clear hE hR hfi
        by_cases hlt : k < F.length
        case neg =>
          obtain rfl : k = F.length := by omega
          have HN : Hid (readT ws = some ⟨io, ia, ib, ic, inn⟩) := Lib.hid (by rw [← HR.out, List.drop_length]; rfl)
          have hBk := Lib.hid (ins5 b2 (.int .i64 io) (.int .i64 ia) (.int .i64 ib) (.int .i64 ic) (.int .i64 inn))
          have XX := Lib.hid (ext5 X.out Hg2.out (.int .i64 io) (.int .i64 ia) (.int .i64 ib) (.int .i64 ic) (.int .i64 inn))
          clear b2 b4
          go_wp2
          exact bodyPost_ret (resultsT_cb (v := .bool true) hBk.out rfl _ rfl rfl Tryd.underlying46 rfl (by kernel_rfl)) rfl (ReadPost.yes ⟨io, ia, ib, ic, inn⟩ HN.out Hfi.out XX.out)
        case pos =>
          have hix2 := str_index F k F[k] (by simp [hlt])
          have hlet : Letter F[k] := HFx.out _ (List.getElem_mem hlt)
          have hws : k + 1 < ws.length := by have := Hl.out; omega
          have HS := Lib.hid (readA_step (i := ⟨io, ia, ib, ic, inn⟩) (show F[k]? = some F[k] by simp [hlt]) (show ws[k + 1]? = some (ws.getD (k + 1) []) by simp [hws]))
          rw [HR.out] at HS
          clear HR
          have hc1 := Hcell.out wr X.out (k + 1) hws
          have hWl : (ws.getD (k + 1) []).length ≤ 1000000000 := Hw.out _ (by rw [List.getD_eq_getElem?_getD, List.getElem?_eq_getElem hws]; exact List.getElem_mem hws)
          have hin : ((k : Int) + 1) < (ws.length : Int) := by omega
          have htn : ((k : Int) + 1).toNat = k + 1 := by omega
          generalize F[k] = x at *
          generalize ws.getD (k + 1) [] = U at *
          rcases hlet with rfl | rfl | rfl | rfl | rfl
          case inl =>
            cases U with
            | nil =>
              have HN : Hid (readT ws = none) := Lib.hid (by rw [HS.out]; rfl)
              have hBk := Lib.hid (ins5 b2 (.int .i64 io) (.int .i64 ia) (.int .i64 ib) (.int .i64 ic) (.int .i64 inn))
              have XX := Lib.hid (ext5 X.out Hg2.out (.int .i64 io) (.int .i64 ia) (.int .i64 ib) (.int .i64 ic) (.int .i64 inn))
              clear b2 b4
              go_wp2
              exact bodyPost_ret (resultsT_cb (v := .bool false) hBk.out rfl _ rfl rfl Tryd.underlying46 rfl (by kernel_rfl)) rfl (ReadPost.no ⟨io, ia, ib, ic, inn⟩ HN.out XX.out)
            | cons b r =>
              have hsU := str_size (b :: r)
              have hixU : ∀ W, (Instr.index 9 (str (b :: r)) (.int .i64 0)).run Tryd.prog W = .ok (.int .u8 (b.toNat : Int)) W := fun W => by simpa using str_index (b :: r) 0 b rfl W
              have hdU : decide (((b :: r).length : Int) < 1) = false := by simp; omega
              have hUl : (b :: r).length = r.length + 1 := rfl
              have htl := tail_str b r (b :: r).length rfl
              have hU1 : 1 ≤ (b :: r).length := by simp
              have hU2 : (1 : Int) ≤ ((b :: r).length : Int) := by simp; omega
              by_cases hbf : b = 114
              case neg =>
                have hbn : ((b.toNat : Int) != 114) = true := by
                  have : ¬ b.toNat = 114 := fun e => hbf (UInt8.toNat_inj.1 e)
                  simpa using (show ¬ (b.toNat : Int) = 114 by omega)
                have HN : Hid (readT ws = none) := Lib.hid (by rw [HS.out]; simp [argT, hbf])
                generalize b.toNat = m at *
                clear htl hUl
                generalize (b :: r : List UInt8) = U at *
                have hBk := Lib.hid (ins5 b2 (.int .i64 io) (.int .i64 ia) (.int .i64 ib) (.int .i64 ic) (.int .i64 inn))
                have XX := Lib.hid (ext5 X.out Hg2.out (.int .i64 io) (.int .i64 ia) (.int .i64 ib) (.int .i64 ic) (.int .i64 inn))
                clear b2 b4
                go_wp2
                exact bodyPost_ret (resultsT_cb (v := .bool false) hBk.out rfl _ rfl rfl Tryd.underlying46 rfl (by kernel_rfl)) rfl (ReadPost.no ⟨io, ia, ib, ic, inn⟩ HN.out XX.out)
              case pos =>
                subst hbf
                have HA : Hid (argT 65 (114 :: r) = numT r 18) := Lib.hid (by simp [argT])
                have hrl : r.length ≤ 1000000000 := by omega
                clear hUl
                generalize hUe : (114 :: r : List UInt8) = U at *
                clear hUe
                go_wp2_with fail
                (with_reducible refine (rnumber18 r (by omega) _).mono ?_)
                rintro e w5 ⟨n, ok, rfl, hn, hok, hx⟩
                rw [refN_eq] at hok
                have X := Lib.hid (X.out.trans hx)
                replace b2 := b2.ext hx
                replace b4 := b4.ext hx
                clear hx r0 r1 r2 r3 r4 c0 c1 c2 c3 c4 hg2l hg4l hc1 hkl
                have hg2l := b2.lt
                have hg4l := b4.lt
                obtain ⟨r0, r1, r2, r3, r4⟩ := cells5 b2
                obtain ⟨c0, c1, c2, c3, c4⟩ := cells5 b4
                rcases hok with ⟨rfl, hok⟩ | ⟨rfl, hok⟩
                case inr =>
                  have HN : Hid (readT ws = none) := Lib.hid (by rw [HS.out, HA.out, hok]; rfl)
                  clear hok
                  have hBk := Lib.hid (ins5 b2 (.int .i64 io) (.int .i64 ia) (.int .i64 ib) (.int .i64 ic) (.int .i64 inn))
                  have XX := Lib.hid (ext5 X.out Hg2.out (.int .i64 io) (.int .i64 ia) (.int .i64 ib) (.int .i64 ic) (.int .i64 inn))
                  clear b2 b4
                  go_wp2
                  exact bodyPost_ret (resultsT_cb (v := .bool false) hBk.out rfl _ rfl rfl Tryd.underlying46 rfl (by kernel_rfl)) rfl (ReadPost.no ⟨io, ia, ib, ic, inn⟩ HN.out XX.out)
                case inl =>
                  have HN : Hid (readA (F.drop (k + 1)) (ws.drop (k + 1 + 1)) ⟨io, n, ib, ic, inn⟩ = readT ws) := Lib.hid (by rw [HS.out, HA.out, hok]; rfl)
                  clear hok
                  have hf5 : Hid (LIns.fits ⟨io, n, ib, ic, inn⟩) := Lib.hid (setT_fits Hfi.out 65 hn)
                  have hB4 := Lib.hid (b4.set_ 1 (.int .i64 n))
                  have hB2 := Lib.hid (b2.far (p := ⟨g + 1, 1, none⟩) (by simp) (.int .i64 n))
                  have XX := Lib.hid (X.out.setCell (p := ⟨g + 1, 1, none⟩) Hg4.out (.int .i64 n))
                  clear b2 b4 hn
                  go_wp2
                  go_roundw
                  case rel => exact ⟨k + 1, ⟨io, n, ib, ic, inn⟩, by omega, by go_num, hB2.out, hB4.out, hf5.out, XX.out, HN.out⟩
                  case measure => first | (simp [intOf]; done) | (simp [intOf]; omega)
          case inr.inl =>
            cases U with
            | nil =>
              have HN : Hid (readT ws = none) := Lib.hid (by rw [HS.out]; rfl)
              have hBk := Lib.hid (ins5 b2 (.int .i64 io) (.int .i64 ia) (.int .i64 ib) (.int .i64 ic) (.int .i64 inn))
              have XX := Lib.hid (ext5 X.out Hg2.out (.int .i64 io) (.int .i64 ia) (.int .i64 ib) (.int .i64 ic) (.int .i64 inn))
              clear b2 b4
              go_wp2
              exact bodyPost_ret (resultsT_cb (v := .bool false) hBk.out rfl _ rfl rfl Tryd.underlying46 rfl (by kernel_rfl)) rfl (ReadPost.no ⟨io, ia, ib, ic, inn⟩ HN.out XX.out)
            | cons b r =>
              have hsU := str_size (b :: r)
              have hixU : ∀ W, (Instr.index 9 (str (b :: r)) (.int .i64 0)).run Tryd.prog W = .ok (.int .u8 (b.toNat : Int)) W := fun W => by simpa using str_index (b :: r) 0 b rfl W
              have hdU : decide (((b :: r).length : Int) < 1) = false := by simp; omega
              have hUl : (b :: r).length = r.length + 1 := rfl
              have htl := tail_str b r (b :: r).length rfl
              have hU1 : 1 ≤ (b :: r).length := by simp
              have hU2 : (1 : Int) ≤ ((b :: r).length : Int) := by simp; omega
              by_cases hbf : b = 114
              case neg =>
                have hbn : ((b.toNat : Int) != 114) = true := by
                  have : ¬ b.toNat = 114 := fun e => hbf (UInt8.toNat_inj.1 e)
                  simpa using (show ¬ (b.toNat : Int) = 114 by omega)
                have HN : Hid (readT ws = none) := Lib.hid (by rw [HS.out]; simp [argT, hbf])
                generalize b.toNat = m at *
                clear htl hUl
                generalize (b :: r : List UInt8) = U at *
                have hBk := Lib.hid (ins5 b2 (.int .i64 io) (.int .i64 ia) (.int .i64 ib) (.int .i64 ic) (.int .i64 inn))
                have XX := Lib.hid (ext5 X.out Hg2.out (.int .i64 io) (.int .i64 ia) (.int .i64 ib) (.int .i64 ic) (.int .i64 inn))
                clear b2 b4
                go_wp2
                exact bodyPost_ret (resultsT_cb (v := .bool false) hBk.out rfl _ rfl rfl Tryd.underlying46 rfl (by kernel_rfl)) rfl (ReadPost.no ⟨io, ia, ib, ic, inn⟩ HN.out XX.out)
              case pos =>
                subst hbf
                have HA : Hid (argT 66 (114 :: r) = numT r 18) := Lib.hid (by simp [argT])
                have hrl : r.length ≤ 1000000000 := by omega
                clear hUl
                generalize hUe : (114 :: r : List UInt8) = U at *
                clear hUe
                go_wp2_with fail
                (with_reducible refine (rnumber18 r (by omega) _).mono ?_)
                rintro e w5 ⟨n, ok, rfl, hn, hok, hx⟩
                rw [refN_eq] at hok
                have X := Lib.hid (X.out.trans hx)
                replace b2 := b2.ext hx
                replace b4 := b4.ext hx
                clear hx r0 r1 r2 r3 r4 c0 c1 c2 c3 c4 hg2l hg4l hc1 hkl
                have hg2l := b2.lt
                have hg4l := b4.lt
                obtain ⟨r0, r1, r2, r3, r4⟩ := cells5 b2
                obtain ⟨c0, c1, c2, c3, c4⟩ := cells5 b4
                rcases hok with ⟨rfl, hok⟩ | ⟨rfl, hok⟩
                case inr =>
                  have HN : Hid (readT ws = none) := Lib.hid (by rw [HS.out, HA.out, hok]; rfl)
                  clear hok
                  have hBk := Lib.hid (ins5 b2 (.int .i64 io) (.int .i64 ia) (.int .i64 ib) (.int .i64 ic) (.int .i64 inn))
                  have XX := Lib.hid (ext5 X.out Hg2.out (.int .i64 io) (.int .i64 ia) (.int .i64 ib) (.int .i64 ic) (.int .i64 inn))
                  clear b2 b4
                  go_wp2
                  exact bodyPost_ret (resultsT_cb (v := .bool false) hBk.out rfl _ rfl rfl Tryd.underlying46 rfl (by kernel_rfl)) rfl (ReadPost.no ⟨io, ia, ib, ic, inn⟩ HN.out XX.out)
                case inl =>
                  have HN : Hid (readA (F.drop (k + 1)) (ws.drop (k + 1 + 1)) ⟨io, ia, n, ic, inn⟩ = readT ws) := Lib.hid (by rw [HS.out, HA.out, hok]; rfl)
                  clear hok
                  have hf5 : Hid (LIns.fits ⟨io, ia, n, ic, inn⟩) := Lib.hid (setT_fits Hfi.out 66 hn)
                  have hB4 := Lib.hid (b4.set_ 2 (.int .i64 n))
                  have hB2 := Lib.hid (b2.far (p := ⟨g + 1, 2, none⟩) (by simp) (.int .i64 n))
                  have XX := Lib.hid (X.out.setCell (p := ⟨g + 1, 2, none⟩) Hg4.out (.int .i64 n))
                  clear b2 b4 hn
                  go_wp2
                  go_roundw
                  case rel => exact ⟨k + 1, ⟨io, ia, n, ic, inn⟩, by omega, by go_num, hB2.out, hB4.out, hf5.out, XX.out, HN.out⟩
                  case measure => first | (simp [intOf]; done) | (simp [intOf]; omega)
          case inr.inr.inl =>
            cases U with
            | nil =>
              have HN : Hid (readT ws = none) := Lib.hid (by rw [HS.out]; rfl)
              have hBk := Lib.hid (ins5 b2 (.int .i64 io) (.int .i64 ia) (.int .i64 ib) (.int .i64 ic) (.int .i64 inn))
              have XX := Lib.hid (ext5 X.out Hg2.out (.int .i64 io) (.int .i64 ia) (.int .i64 ib) (.int .i64 ic) (.int .i64 inn))
              clear b2 b4
              go_wp2
              exact bodyPost_ret (resultsT_cb (v := .bool false) hBk.out rfl _ rfl rfl Tryd.underlying46 rfl (by kernel_rfl)) rfl (ReadPost.no ⟨io, ia, ib, ic, inn⟩ HN.out XX.out)
            | cons b r =>
              have hsU := str_size (b :: r)
              have hixU : ∀ W, (Instr.index 9 (str (b :: r)) (.int .i64 0)).run Tryd.prog W = .ok (.int .u8 (b.toNat : Int)) W := fun W => by simpa using str_index (b :: r) 0 b rfl W
              have hdU : decide (((b :: r).length : Int) < 1) = false := by simp; omega
              have hUl : (b :: r).length = r.length + 1 := rfl
              have htl := tail_str b r (b :: r).length rfl
              have hU1 : 1 ≤ (b :: r).length := by simp
              have hU2 : (1 : Int) ≤ ((b :: r).length : Int) := by simp; omega
              by_cases hbf : b = 114
              case neg =>
                have hbn : ((b.toNat : Int) != 114) = true := by
                  have : ¬ b.toNat = 114 := fun e => hbf (UInt8.toNat_inj.1 e)
                  simpa using (show ¬ (b.toNat : Int) = 114 by omega)
                have HN : Hid (readT ws = none) := Lib.hid (by rw [HS.out]; simp [argT, hbf])
                generalize b.toNat = m at *
                clear htl hUl
                generalize (b :: r : List UInt8) = U at *
                have hBk := Lib.hid (ins5 b2 (.int .i64 io) (.int .i64 ia) (.int .i64 ib) (.int .i64 ic) (.int .i64 inn))
                have XX := Lib.hid (ext5 X.out Hg2.out (.int .i64 io) (.int .i64 ia) (.int .i64 ib) (.int .i64 ic) (.int .i64 inn))
                clear b2 b4
                go_wp2
                exact bodyPost_ret (resultsT_cb (v := .bool false) hBk.out rfl _ rfl rfl Tryd.underlying46 rfl (by kernel_rfl)) rfl (ReadPost.no ⟨io, ia, ib, ic, inn⟩ HN.out XX.out)
              case pos =>
                subst hbf
                have HA : Hid (argT 67 (114 :: r) = numT r 18) := Lib.hid (by simp [argT])
                have hrl : r.length ≤ 1000000000 := by omega
                clear hUl
                generalize hUe : (114 :: r : List UInt8) = U at *
                clear hUe
                go_wp2_with fail
                (with_reducible refine (rnumber18 r (by omega) _).mono ?_)
                rintro e w5 ⟨n, ok, rfl, hn, hok, hx⟩
                rw [refN_eq] at hok
                have X := Lib.hid (X.out.trans hx)
                replace b2 := b2.ext hx
                replace b4 := b4.ext hx
                clear hx r0 r1 r2 r3 r4 c0 c1 c2 c3 c4 hg2l hg4l hc1 hkl
                have hg2l := b2.lt
                have hg4l := b4.lt
                obtain ⟨r0, r1, r2, r3, r4⟩ := cells5 b2
                obtain ⟨c0, c1, c2, c3, c4⟩ := cells5 b4
                rcases hok with ⟨rfl, hok⟩ | ⟨rfl, hok⟩
                case inr =>
                  have HN : Hid (readT ws = none) := Lib.hid (by rw [HS.out, HA.out, hok]; rfl)
                  clear hok
                  have hBk := Lib.hid (ins5 b2 (.int .i64 io) (.int .i64 ia) (.int .i64 ib) (.int .i64 ic) (.int .i64 inn))
                  have XX := Lib.hid (ext5 X.out Hg2.out (.int .i64 io) (.int .i64 ia) (.int .i64 ib) (.int .i64 ic) (.int .i64 inn))
                  clear b2 b4
                  go_wp2
                  exact bodyPost_ret (resultsT_cb (v := .bool false) hBk.out rfl _ rfl rfl Tryd.underlying46 rfl (by kernel_rfl)) rfl (ReadPost.no ⟨io, ia, ib, ic, inn⟩ HN.out XX.out)
                case inl =>
                  have HN : Hid (readA (F.drop (k + 1)) (ws.drop (k + 1 + 1)) ⟨io, ia, ib, n, inn⟩ = readT ws) := Lib.hid (by rw [HS.out, HA.out, hok]; rfl)
                  clear hok
                  have hf5 : Hid (LIns.fits ⟨io, ia, ib, n, inn⟩) := Lib.hid (setT_fits Hfi.out 67 hn)
                  have hB4 := Lib.hid (b4.set_ 3 (.int .i64 n))
                  have hB2 := Lib.hid (b2.far (p := ⟨g + 1, 3, none⟩) (by simp) (.int .i64 n))
                  have XX := Lib.hid (X.out.setCell (p := ⟨g + 1, 3, none⟩) Hg4.out (.int .i64 n))
                  clear b2 b4 hn
                  go_wp2
                  go_roundw
                  case rel => exact ⟨k + 1, ⟨io, ia, ib, n, inn⟩, by omega, by go_num, hB2.out, hB4.out, hf5.out, XX.out, HN.out⟩
                  case measure => first | (simp [intOf]; done) | (simp [intOf]; omega)
          case inr.inr.inr.inl =>
            cases U with
            | nil =>
              have HN : Hid (readT ws = none) := Lib.hid (by rw [HS.out]; rfl)
              have hBk := Lib.hid (ins5 b2 (.int .i64 io) (.int .i64 ia) (.int .i64 ib) (.int .i64 ic) (.int .i64 inn))
              have XX := Lib.hid (ext5 X.out Hg2.out (.int .i64 io) (.int .i64 ia) (.int .i64 ib) (.int .i64 ic) (.int .i64 inn))
              clear b2 b4
              go_wp2
              exact bodyPost_ret (resultsT_cb (v := .bool false) hBk.out rfl _ rfl rfl Tryd.underlying46 rfl (by kernel_rfl)) rfl (ReadPost.no ⟨io, ia, ib, ic, inn⟩ HN.out XX.out)
            | cons b r =>
              have hsU := str_size (b :: r)
              have hixU : ∀ W, (Instr.index 9 (str (b :: r)) (.int .i64 0)).run Tryd.prog W = .ok (.int .u8 (b.toNat : Int)) W := fun W => by simpa using str_index (b :: r) 0 b rfl W
              have hdU : decide (((b :: r).length : Int) < 1) = false := by simp; omega
              have hUl : (b :: r).length = r.length + 1 := rfl
              have htl := tail_str b r (b :: r).length rfl
              have hU1 : 1 ≤ (b :: r).length := by simp
              have hU2 : (1 : Int) ≤ ((b :: r).length : Int) := by simp; omega
              by_cases hbf : b = 103
              case neg =>
                have hbn : ((b.toNat : Int) != 103) = true := by
                  have : ¬ b.toNat = 103 := fun e => hbf (UInt8.toNat_inj.1 e)
                  simpa using (show ¬ (b.toNat : Int) = 103 by omega)
                have HN : Hid (readT ws = none) := Lib.hid (by rw [HS.out]; simp [argT, hbf])
                generalize b.toNat = m at *
                clear htl hUl
                generalize (b :: r : List UInt8) = U at *
                have hBk := Lib.hid (ins5 b2 (.int .i64 io) (.int .i64 ia) (.int .i64 ib) (.int .i64 ic) (.int .i64 inn))
                have XX := Lib.hid (ext5 X.out Hg2.out (.int .i64 io) (.int .i64 ia) (.int .i64 ib) (.int .i64 ic) (.int .i64 inn))
                clear b2 b4
                go_wp2
                exact bodyPost_ret (resultsT_cb (v := .bool false) hBk.out rfl _ rfl rfl Tryd.underlying46 rfl (by kernel_rfl)) rfl (ReadPost.no ⟨io, ia, ib, ic, inn⟩ HN.out XX.out)
              case pos =>
                subst hbf
                have HA : Hid (argT 68 (103 :: r) = numT r 18) := Lib.hid (by simp [argT])
                have hrl : r.length ≤ 1000000000 := by omega
                clear hUl
                generalize hUe : (103 :: r : List UInt8) = U at *
                clear hUe
                go_wp2_with fail
                (with_reducible refine (rnumber18 r (by omega) _).mono ?_)
                rintro e w5 ⟨n, ok, rfl, hn, hok, hx⟩
                rw [refN_eq] at hok
                have X := Lib.hid (X.out.trans hx)
                replace b2 := b2.ext hx
                replace b4 := b4.ext hx
                clear hx r0 r1 r2 r3 r4 c0 c1 c2 c3 c4 hg2l hg4l hc1 hkl
                have hg2l := b2.lt
                have hg4l := b4.lt
                obtain ⟨r0, r1, r2, r3, r4⟩ := cells5 b2
                obtain ⟨c0, c1, c2, c3, c4⟩ := cells5 b4
                rcases hok with ⟨rfl, hok⟩ | ⟨rfl, hok⟩
                case inr =>
                  have HN : Hid (readT ws = none) := Lib.hid (by rw [HS.out, HA.out, hok]; rfl)
                  clear hok
                  have hBk := Lib.hid (ins5 b2 (.int .i64 io) (.int .i64 ia) (.int .i64 ib) (.int .i64 ic) (.int .i64 inn))
                  have XX := Lib.hid (ext5 X.out Hg2.out (.int .i64 io) (.int .i64 ia) (.int .i64 ib) (.int .i64 ic) (.int .i64 inn))
                  clear b2 b4
                  go_wp2
                  exact bodyPost_ret (resultsT_cb (v := .bool false) hBk.out rfl _ rfl rfl Tryd.underlying46 rfl (by kernel_rfl)) rfl (ReadPost.no ⟨io, ia, ib, ic, inn⟩ HN.out XX.out)
                case inl =>
                  have HN : Hid (readA (F.drop (k + 1)) (ws.drop (k + 1 + 1)) ⟨io, ia, ib, n, inn⟩ = readT ws) := Lib.hid (by rw [HS.out, HA.out, hok]; rfl)
                  clear hok
                  have hf5 : Hid (LIns.fits ⟨io, ia, ib, n, inn⟩) := Lib.hid (setT_fits Hfi.out 68 hn)
                  have hB4 := Lib.hid (b4.set_ 3 (.int .i64 n))
                  have hB2 := Lib.hid (b2.far (p := ⟨g + 1, 3, none⟩) (by simp) (.int .i64 n))
                  have XX := Lib.hid (X.out.setCell (p := ⟨g + 1, 3, none⟩) Hg4.out (.int .i64 n))
                  clear b2 b4 hn
                  go_wp2
                  go_roundw
                  case rel => exact ⟨k + 1, ⟨io, ia, ib, n, inn⟩, by omega, by go_num, hB2.out, hB4.out, hf5.out, XX.out, HN.out⟩
                  case measure => first | (simp [intOf]; done) | (simp [intOf]; omega)
          case inr.inr.inr.inr =>
            have HA : Hid (argT 78 U = numT U 19) := Lib.hid (by simp [argT])
            go_wp2_with fail
            (with_reducible refine (rnumber19 U (by omega) _).mono ?_)
            rintro e w5 ⟨n, ok, rfl, hn, hok, hx⟩
            rw [refN_eq] at hok
            have X := Lib.hid (X.out.trans hx)
            replace b2 := b2.ext hx
            replace b4 := b4.ext hx
            clear hx r0 r1 r2 r3 r4 c0 c1 c2 c3 c4 hg2l hg4l hc1 hkl
            have hg2l := b2.lt
            have hg4l := b4.lt
            obtain ⟨r0, r1, r2, r3, r4⟩ := cells5 b2
            obtain ⟨c0, c1, c2, c3, c4⟩ := cells5 b4
            rcases hok with ⟨rfl, hok⟩ | ⟨rfl, hok⟩
            case inr =>
              have HN : Hid (readT ws = none) := Lib.hid (by rw [HS.out, HA.out, hok]; rfl)
              clear hok
              have hBk := Lib.hid (ins5 b2 (.int .i64 io) (.int .i64 ia) (.int .i64 ib) (.int .i64 ic) (.int .i64 inn))
              have XX := Lib.hid (ext5 X.out Hg2.out (.int .i64 io) (.int .i64 ia) (.int .i64 ib) (.int .i64 ic) (.int .i64 inn))
              clear b2 b4
              go_wp2
              exact bodyPost_ret (resultsT_cb (v := .bool false) hBk.out rfl _ rfl rfl Tryd.underlying46 rfl (by kernel_rfl)) rfl (ReadPost.no ⟨io, ia, ib, ic, inn⟩ HN.out XX.out)
            case inl =>
              have HN : Hid (readA (F.drop (k + 1)) (ws.drop (k + 1 + 1)) ⟨io, ia, ib, ic, n⟩ = readT ws) := Lib.hid (by rw [HS.out, HA.out, hok]; rfl)
              clear hok
              have hf5 : Hid (LIns.fits ⟨io, ia, ib, ic, n⟩) := Lib.hid (setT_fits Hfi.out 78 hn)
              have hB4 := Lib.hid (b4.set_ 4 (.int .i64 n))
              have hB2 := Lib.hid (b2.far (p := ⟨g + 1, 4, none⟩) (by simp) (.int .i64 n))
              have XX := Lib.hid (X.out.setCell (p := ⟨g + 1, 4, none⟩) Hg4.out (.int .i64 n))
              clear b2 b4 hn
              go_wp2
              go_roundw
              case rel => exact ⟨k + 1, ⟨io, ia, ib, ic, n⟩, by omega, by go_num, hB2.out, hB4.out, hf5.out, XX.out, HN.out⟩
              case measure => first | (simp [intOf]; done) | (simp [intOf]; omega)
end Go.Proofs.YtkkekbnhndfhjaaDoor
