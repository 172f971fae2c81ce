/- Laid together from: Txc, Txg. -/
import Derived.Test.YtkkekbnhndfhjaaDoorTextAgainB26
import Derived.Test.YtkkekbnhndfhjaaDoorTextAgainB7
import Derived.Test.YtkkekbnhndfhjaaDoorTextAgainB10
import Derived.Lib.SmallJoins
import Derived.Test.YtkkekbnhndfhjaaDoorTextAgainB25

namespace Go.Proofs.YtkkekbnhndfhjaaDoor
open Go.ChangeShapes Go.WideShapes Go.ChangeAt Go.RowKit
set_option linter.unusedVariables false
set_option linter.unusedSimpArgs false
structure Tab9 (w : World) : Prop where
  tabs : Tabs w
  max : ∃ m, w.cell? ⟨0, 0, none⟩ = some (.int .i64 m)
  syn : ∃ ev, w.cell? ⟨6, 0, none⟩ = some ev ∧ (ev = .nilIface ∨ ∃ te pe, ev = .iface te pe)
  rng : ∃ ev, w.cell? ⟨7, 0, none⟩ = some ev ∧ (ev = .nilIface ∨ ∃ te pe, ev = .iface te pe)
theorem Tab9.ext {w w' : World} (h : Tab9 w) (hx : Ext w w') : Tab9 w' := by
  obtain ⟨h1, ⟨m, h2⟩, ⟨a, h3, h3'⟩, ⟨b, h4, h4'⟩⟩ := h
  exact ⟨h1.ext hx, ⟨m, hx.kept h2⟩, ⟨a, hx.kept h3, h3'⟩, ⟨b, hx.kept h4, h4'⟩⟩
def StrsAt (w : World) (v : Value) (L : List (List UInt8)) : Prop := ∃ k cap, v = .slice (some ⟨k, 0, none⟩) L.length cap ∧ L.length ≤ cap ∧ cap ≤ maxLen ∧ k < w.heap.size ∧ ∀ j, j < L.length → w.cell? ⟨k, j, none⟩ = some (str (L.getD j []))
theorem StrsAt.ext {w w' : World} {v : Value} {L : List (List UInt8)} (h : StrsAt w v L) (hx : Ext w w') : StrsAt w' v L := by
  obtain ⟨k, cap, h1, h2, h2', h3, h4⟩ := h
  exact ⟨k, cap, h1, h2, h2', Nat.lt_of_lt_of_le h3 hx.size, fun j hj => hx.kept (h4 j hj)⟩
def SplitPost (c : UInt8) (s : List UInt8) (w : World) (e : Ending) (w' : World) : Prop := ∃ v, e = .returned v ∧ StrsAt w' v (splitT c s) ∧ Ext w w'
theorem toB (x : ByteArray) : (⟨x.data.toList.toArray⟩ : ByteArray) = x := by
  obtain ⟨⟨l⟩⟩ := x
  rfl
theorem split_c (c : UInt8) (s : List UInt8) (hs : s.length ≤ 1000000000) (w : World) (ht : Tab9 w) :
    Calls Tryd.prog 19 #[str s, str [c]] w (SplitPost c s w) := by
  obtain ⟨m, hm⟩ := ht.max
  refine (Tryd.strings_Split ⟨s.toArray⟩ ⟨[c].toArray⟩ m w (by rw [str_size]; omega) hm (by rw [str_size]; simp)).mono ?_
  rintro e w' ⟨rfl, rfl⟩
  have hn : Lib.countB ⟨s.toArray⟩ ⟨[c].toArray⟩ = s.count c := by
    have : Lib.countB ⟨s.toArray⟩ ⟨[c].toArray⟩ = Lib.count s [c] := rfl
    rw [this, Lib.count_one]
  have hd : (Lib.splitB ⟨[c].toArray⟩ 0 (s.count c) ⟨s.toArray⟩).map (·.data.toList) = splitT c s := by
    rw [Lib.splitB_data]
    exact splitK_eq c _ s (Nat.le_refl _)
  have hL : (Lib.splitB ⟨[c].toArray⟩ 0 (s.count c) ⟨s.toArray⟩).map Value.string = (splitT c s).map str := by
    rw [← hd, List.map_map]
    apply List.map_congr_left
    intro x _
    show Value.string x = Value.string ⟨x.data.toList.toArray⟩
    rw [toB]
  have hl := splitT_len c s
  have hcl := List.count_le_length (a := c) (l := s)
  rw [hn, hL, ← hl]
  refine ⟨_, rfl, ⟨w.heap.size, _, rfl, Nat.le_refl _, by unfold maxLen; omega, (Blk.new w 9 ((splitT c s).map str).toArray).lt, fun j hj => ?_⟩, (Ext.refl w).alloc _⟩
  rw [(Blk.new w 9 ((splitT c s).map str).toArray).cell]
  simp [hj]
def PIntPost (s : List UInt8) (w : World) (e : Ending) (w' : World) : Prop :=
  ∃ n ev, e = .returned (.tuple #[.int .i64 n, ev]) ∧ R64 n ∧ ((Lib.parseIntB 64 s = .ok n ∧ ev = .nilIface) ∨ ((∀ v, Lib.parseIntB 64 s ≠ .ok v) ∧ ∃ t p, ev = .iface t p)) ∧ Ext w w'
theorem pint_c (s : List UInt8) (hs : s.length ≤ 1000000000) (w : World) (ht : Tab9 w) :
    Calls Tryd.prog 51 #[str s, .int .i64 10, .int .i64 64] w (PIntPost s w) := by
  have hz : (⟨s.toArray⟩ : ByteArray).size ≤ 281474976710656 := by rw [str_size]; omega
  have hl : (⟨s.toArray⟩ : ByteArray).data.toList = s := by simp
  rcases hp : Lib.parseIntB 64 s with v | _ | _
  · refine (Tryd.strconv_ParseInt_10_at64_ok ⟨s.toArray⟩ (by omega) v (by rw [hl]; exact hp) w).mono ?_
    rintro e w' ⟨rfl, hw⟩
    have hb := Lib.parseIntB_bounds hp
    refine ⟨v, .nilIface, rfl, ⟨by simpa using hb.1, by have := hb.2; simp at this; omega⟩, .inl ⟨hp, rfl⟩, ?_⟩
    rcases hw with rfl | ⟨t, rfl⟩
    · exact Ext.refl _
    · exact Lib.bytesWorld_below _ _ _
  · obtain ⟨ev, hv, hev⟩ := ht.syn
    have hne : (∀ v, Lib.parseIntB 64 s ≠ .ok v) ∧ Lib.parseIntB 64 s ≠ .range := by rw [hp]; simp
    refine (Tryd.strconv_ParseInt_10_at64_syntax ⟨s.toArray⟩ hz (Lib.parseIntB 64 s) (by rw [hl]) hne ev w hv hev).mono ?_
    rintro e w' ⟨N, rfl, -, -, hb⟩
    exact ⟨0, _, rfl, ⟨by omega, by omega⟩, .inr ⟨by rw [hp]; simp, _, _, rfl⟩, hb⟩
  · obtain ⟨ev, hv, hev⟩ := ht.rng
    refine (Tryd.strconv_ParseInt_10_at64_range ⟨s.toArray⟩ hz (by rw [hl]; exact hp) ev w hv hev).mono ?_
    rintro e w' ⟨N, rfl, -, -, hb⟩
    refine ⟨_, _, rfl, ?_, .inr ⟨by rw [hp]; simp, _, _, rfl⟩, hb⟩
    unfold Lib.intSat
    split
    · exact ⟨by simp, by simp⟩
    · exact ⟨by simp, by simp⟩
def NumPost (s : List UInt8) (most : Nat) (w : World) (e : Ending) (w' : World) : Prop :=
  ∃ n b, e = .returned (.tuple #[.int .i64 n, .bool b]) ∧ R64 n ∧ ((b = true ∧ numT s most = some n) ∨ (b = false ∧ numT s most = none)) ∧ Ext w w'
set_option maxHeartbeats 4000000 in
theorem number_c (s : List UInt8) (most : Nat) (hm : most ≤ 19) (hs : s.length ≤ 1000000000) (w : World) (ht : Tab9 w) :
    Calls Tryd.prog 36 #[str s, .int .i64 most] w (NumPost s most w) := by
  have Ht := Lib.hid ht
  have C := Lib.hid fun W (X : Ext w W) => pint_c s hs W (Ht.out.ext X)
  have F := Lib.hid fun n (hn : R64 n) W (X : Ext w W) => fmt_c n hn W (Ht.out.tabs.ext X)
  have T := Lib.hid fun W => Tryd.strings_TrimPrefix ⟨s.toArray⟩ ⟨[45].toArray⟩ W
  have hl : (⟨s.toArray⟩ : ByteArray).data.toList = s := by simp
  have hl2 : (⟨([45] : List UInt8).toArray⟩ : ByteArray).data.toList = [45] := by simp
  rw [hl, hl2] at T
  have htl : (Lib.trimPrefix s [45]).length ≤ 1000000000 := by
    rw [trim_minus]
    split
    · rw [List.length_drop]; omega
    · exact hs
  have Hn := Lib.hid (show numT s most = numT s most from rfl)
  clear ht hl hl2
  go_enter Tryd.func36, Tryd.ntmps36
  go_wp2_with fail
  (with_reducible refine (C.out w (Ext.refl w)).mono ?_)
  rintro e w1 ⟨n, ev, rfl, hr, hc, hx⟩
  have X := Lib.hid hx
  clear hx
  rcases hc with ⟨hp, rfl⟩ | ⟨hp, t, p, rfl⟩
  · have HN : Hid (numT s most = if Lib.itoa n = s ∧ (Lib.trimPrefix s [45]).length ≤ most then some n else none) := Lib.hid (by unfold numT; rw [hp])
    clear hp
    go_wp2_with fail
    (with_reducible refine (F.out n hr _ X.out).mono ?_)
    rintro e w2 ⟨rfl, hx⟩
    have X := Lib.hid (X.out.trans hx)
    clear hx
    by_cases he : Lib.itoa n = s
    · have q : (Lib.itoa n == s) = true := by simpa using he
      go_wp2_with fail
      (with_reducible refine (T.out _).mono ?_)
      rintro e w3 ⟨rfl, rfl⟩
      generalize Lib.trimPrefix s [45] = M at *
      have hsz := str_size M
      by_cases hM : M.length ≤ most
      · go_wp2
        go_ret2
        exact ⟨n, true, rfl, hr, .inl ⟨rfl, by rw [HN.out, if_pos ⟨he, hM⟩]⟩, X.out⟩
      · go_wp2
        go_ret2
        exact ⟨n, false, rfl, hr, .inr ⟨rfl, by rw [HN.out, if_neg (fun h => hM h.2)]⟩, X.out⟩
    · have q : (Lib.itoa n == s) = false := by simpa using he
      go_wp2
      go_ret2
      exact ⟨n, false, rfl, hr, .inr ⟨rfl, by rw [HN.out, if_neg (fun h => he h.1)]⟩, X.out⟩
  · have HN : Hid (numT s most = none) := Lib.hid (by
      unfold numT
      split
      · rename_i v hv
        exact absurd hv (hp v)
      · rfl)
    clear hp
    go_wp2
    go_ret2
    exact ⟨n, false, rfl, hr, .inr ⟨rfl, HN.out⟩, X.out⟩
abbrev insTV (i : LIns) : Array Value := #[.int .i64 i.op, .int .i64 i.a, .int .i64 i.b, .int .i64 i.c, .int .i64 i.n]
theorem cells5 {W : World} {g T : Nat} {a b c d e : Value} (h : Blk W g T #[a, b, c, d, e]) : (W.cell? ⟨g, 0, none⟩ = some a ∧ W.frozen? ⟨g, 0, none⟩ = false) ∧ (W.cell? ⟨g, 1, none⟩ = some b ∧ W.frozen? ⟨g, 1, none⟩ = false) ∧ (W.cell? ⟨g, 2, none⟩ = some c ∧ W.frozen? ⟨g, 2, none⟩ = false) ∧ (W.cell? ⟨g, 3, none⟩ = some d ∧ W.frozen? ⟨g, 3, none⟩ = false) ∧ (W.cell? ⟨g, 4, none⟩ = some e ∧ W.frozen? ⟨g, 4, none⟩ = false) :=
  ⟨⟨by rw [h.cell]; rfl, h.frozen _⟩, ⟨by rw [h.cell]; rfl, h.frozen _⟩, ⟨by rw [h.cell]; rfl, h.frozen _⟩, ⟨by rw [h.cell]; rfl, h.frozen _⟩, ⟨by rw [h.cell]; rfl, h.frozen _⟩⟩
theorem op_some {ws : List (List UInt8)} {o c : Int} (h : opT (ws.getD 0 []) = some (o, c)) : (o, c) ∈ allO ∧ ws.getD 0 [] ≠ [] ∧ opIs o ∧ readT ws = if ws.length = (followT o).length + 1 then readA (followT o) (ws.drop 1) ⟨o, 0, 0, c, 0⟩ else none := by
  obtain ⟨hm, hw⟩ := op_mem h
  have hne : ∀ x ∈ allO, wordT x.1 x.2 ≠ [] := by decide +kernel
  refine ⟨hm, by rw [← hw]; exact hne _ hm, ?_, by unfold readT; rw [h]⟩
  have := (all_facts _ hm).1
  unfold opIs
  exact this
theorem setT_fits {i : LIns} (h : i.fits) (f : UInt8) {n : Int} (hn : R64 n) : (setT i f n).fits := by
  obtain ⟨h1, h2, h3, h4, h5⟩ := h
  unfold setT
  repeat' split
  · exact ⟨h1, hn, h3, h4, h5⟩
  · exact ⟨h1, h2, hn, h4, h5⟩
  · exact ⟨h1, h2, h3, hn, h5⟩
  · exact ⟨h1, h2, h3, h4, hn⟩
theorem readA_step {F : List UInt8} {ws : List (List UInt8)} {k : Nat} {i : LIns} {x : UInt8} {W : List UInt8} (hx : F[k]? = some x) (hw : ws[k + 1]? = some W) :
    readA (F.drop k) (ws.drop (k + 1)) i = (argT x W).bind fun n => readA (F.drop (k + 1)) (ws.drop (k + 1 + 1)) (setT i x n) := by
  obtain ⟨h1, rfl⟩ := List.getElem?_eq_some_iff.1 hx
  obtain ⟨h2, rfl⟩ := List.getElem?_eq_some_iff.1 hw
  rw [List.drop_eq_getElem_cons h1, List.drop_eq_getElem_cons h2]
  rfl
theorem tail_str (b : UInt8) (r : List UInt8) (k : Nat) (hk : k = (b :: r).length) : ((⟨(b :: r).toArray⟩ : ByteArray).extract 1 k) = ⟨r.toArray⟩ := by
  subst hk
  apply ByteArray.ext
  rw [ByteArray.data_extract]
  simp
theorem zero_fits (o c : Int) (h : (o, c) ∈ allO) : LIns.fits ⟨o, 0, 0, c, 0⟩ := by
  have := all_facts _ h
  have h2 : 0 ≤ c ∧ c ≤ 4 := by
    by_cases e : o = 8
    · have := this.2.1 e; simp only at this; omega
    · have := this.2.2 e; simp only at this; omega
  have h1 := this.1
  simp only at h1
  exact ⟨⟨by simp only; omega, by simp only; omega⟩, ⟨by simp, by simp⟩, ⟨by simp, by simp⟩, ⟨by simp only; omega, by simp only; omega⟩, ⟨by simp, by simp⟩⟩
end Go.Proofs.YtkkekbnhndfhjaaDoor
