/- Walk of the reference's Copy. -/
import Derived.Test.YteiknefajlocoaaRef3a
namespace Go.Proofs.Yteiknefajlocoaa
open Go.ChangeShapes Go.WideShapes Go.ChangeAt Go.RowKit
set_option linter.unusedVariables false
set_option linter.unusedSimpArgs false

theorem index_mem' {oa : Option Addr} {n b o cap : Nat} (h : 0 < n → oa = some ⟨b, o, none⟩) (W : World) (i : Int) (h0 : 0 ≤ i) (h1 : i < n) :
    (Instr.indexAt 31 (.slice oa n cap) (.int .i64 i)).run Try.prog W = .ok (.pointer (some ⟨b, o + i.toNat, none⟩)) W := by
  obtain rfl := h (by omega)
  have hs : (Try.prog.info? 71).map (·.size) = some 1 := by kernel_rfl
  simp [Instr.indexAt, run_underlying Try.underlying31, asIntOf, h0, h1]
  exact addr_add b o _
theorem infoRow : (Try.prog.info? 71).map (fun i => (i.zero, i.size, i.bytes)) = some (some (.slice none 0 0), 1, 24) := by kernel_rfl
def CopyPost (m : List (List Int)) (w : World) (e : Ending) (w' : World) : Prop := ∃ u, e = .returned u ∧ MemOwn w' w.heap.size w'.heap.size 71 2 u m ∧ Ext w w'
set_option maxRecDepth 100000 in
set_option maxHeartbeats 2000000 in
theorem rCopy_c (m : List (List Int)) (v : Value) (w : World) (hm : MemAt w v m) (h1 : m.length ≤ 6) (h2 : ∀ l ∈ m, l.length ≤ 64) :
    Calls Try.prog 62 #[v] w (CopyPost m w) := by
  obtain ⟨oa, cap, b, o, rfl, hc1, hc2, vs0, hrow, hin⟩ := hm
  have hix := index_mem' (cap := cap) hrow.at_
  have Hrow := Lib.hid hrow
  have Hin := Lib.hid hin
  obtain ⟨i0, hi0, hz0, hz1, hz2⟩ := info_parts infoI64
  obtain ⟨j0, hj0, hy0, hy1, hy2⟩ := info_parts infoRow
  clear hrow hin hc1 hc2
  go_enter Try.func62, Try.ntmps62
  go_wp2_with fail
  go_loopw [3, 4] (fun out i wr => ∃ j : Nat, j ≤ m.length ∧ i = .int .i64 j ∧ MemOwn wr w.heap.size wr.heap.size 71 2 out (m.take j) ∧ Ext w wr) (fun _ i _ => m.length - (intOf i).toNat)
  case atStart => exact ⟨0, by omega, rfl, by simpa using mem_nil _ _ _ _ _, Ext.refl _⟩
  case round =>
    obtain ⟨j, hj, rfl, hM, hE⟩ := hrel
    by_cases hlt : j < m.length
    · obtain ⟨vs, g1, g2, g3, g4, g5⟩ := hM
      have hlj : (m.take j).length = j := by simp; omega
      have Htk : Hid (m.take (j + 1) = m.take j ++ [m.getD j default]) := Lib.hid (by rw [List.take_succ_eq_append_getElem hlt]; simp [hlt])
      have e0 := (Hrow.out.ext hE).one j hlt
      have hl64 := h2 _ (getD_mem hlt)
      obtain ⟨hb64, ol, lcap, lb, lo, hv, hl1, hl2, hlr⟩ := (Hin.out j hlt).ext hE
      generalize m.getD j default = l at *
      generalize vs0 j = vl at *
      subst hv
      have hbl := block_lt e0
      simp only at hbl
      obtain ⟨oo, oc, rfl⟩ := own_slice g2
      have Hlr := Lib.hid hlr
      rw [hlj] at g2
      have G2 := Lib.hid g2
      have G1 := Lib.hid g1
      have G4 := Lib.hid fun i hi => (g4 i hi).1
      have G5 := Lib.hid g5
      have X := Lib.hid hE
      have Hlj := Lib.hid hlj
      have hws := hE.size
      rw [hlj]
      clear g1 g2 g3 g4 g5 hE hlr hl1 hl2 hb64 hlj
      go_wp2_with (at_builtin; refine wpList_append_src _ rfl (.tmp 12) (.tmp 16) 71 rfl w.heap.size 2 i0 _ 1 8 Try.underlying71 hi0 hz0 hz1 hz2 rfl (by decide) _ 0 [] rfl ?c0 ol l.length lcap (l.map (Value.int .i64)) rfl ?c1 ?c3 ?c4 ?c5 ?_)
      case c0 =>
        have h := World.ownsRow_lit (base := w.heap.size) (e := 2) (size := 1) wr #[] 0 hws (by decide) rfl
        simpa [Act.eval] using h
      case c1 => exact src_ints .i64 (Hlr.out.ext ((Ext.refl _).alloc _))
      case c3 => unfold maxLen; omega
      case c4 => omega
      case c5 => simp; omega
      intro v1 w1 hown1 hgrow1 hat
      obtain ⟨o1, c1, rfl⟩ := own_slice hown1
      have hat1 : ∀ b, (Value.slice o1 l.length c1).ownBlock = some b → wr.heap.size ≤ b := by
        intro b hb
        rcases hat with hat | hat
        · rw [hat] at hb
          have hb2 : wr.heap.size = b := by simpa [Act.eval, Value.ownBlock] using hb
          omega
        · rw [hat] at hb
          have hb2 : wr.heap.size + 1 = b := by simpa using hb
          omega
      have hx1 : Ext wr w1 := ((Ext.refl wr).alloc _).grown hgrow1 (by
        intro k hk
        simp [Act.eval, Value.ownBlock] at hk
        omega)
      have Hv1 := Lib.hid hown1
      have Hat1 := Lib.hid hat1
      have X1 := Lib.hid hx1
      have hs1 := hx1.size
      clear hown1 hgrow1 hat hat1 hx1
      go_wp2_with (at_builtin; refine wpList_append_src _ rfl (.tmp 11) (.tmp 18) 31 rfl w.heap.size 71 j0 _ 1 24 Try.underlying31 hj0 hy0 hy1 hy2 rfl (by decide) _ j vs rfl (own_alloc (own_ext G2.out X1.out)) (some ⟨w1.heap.size, 0, none⟩) 1 1 [.slice o1 l.length c1] rfl ?d1 ?d3 ?d4 ?d5 ?_)
      case d1 => exact src_new (size := 1) (Blk.new w1 71 #[.slice o1 l.length c1]) rfl (by simp [Value.oneCell'])
      case d3 => unfold maxLen; omega
      case d4 => omega
      case d5 => simp; omega
      intro v2 w3 hown2 hgrow2 hat
      clear hat
      have hx2 : Ext wr (w1.alloc (.cells #[.slice o1 l.length c1] 71)) := X1.out.alloc _
      have HM : Hid (MemOwn w3 w.heap.size w3.heap.size 71 2 v2 (m.take (j + 1))) := Lib.hid (by
        rw [Htk.out]
        exact mem_push (wr := wr) (w1 := w1) (out := .slice oo j oc) (by decide) G1.out (by rw [Hlj.out]; exact G2.out) G4.out G5.out hx2 (own_alloc Hv1.out) Hat1.out (by rw [Hlj.out]; exact hown2) hgrow2)
      have X := Lib.hid (((X.out.trans X1.out).alloc _).grown hgrow2 (own_base G2.out))
      clear hown2 hgrow2 hx2 e0
      go_wp2
      go_roundw
      case rel => exact ⟨j + 1, by omega, by go_num, HM.out, X.out⟩
      case measure => first | (simp [intOf]; done) | (simp [intOf]; omega)
    · have hje : j = m.length := by omega
      subst hje
      rw [List.take_length] at hM
      have HM := Lib.hid hM
      have X := Lib.hid hE
      clear hM hE
      have hlt2 : decide ((m.length : Int) < (m.length : Int)) = false := by simp
      go_wp2
      go_ret
      exact ⟨_, rfl, HM.out, X.out⟩
end Go.Proofs.Yteiknefajlocoaa
