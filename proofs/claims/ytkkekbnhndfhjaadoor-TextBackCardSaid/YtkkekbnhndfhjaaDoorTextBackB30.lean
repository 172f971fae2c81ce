/- Laid together from: TxR. -/
import Derived.Test.YtkkekbnhndfhjaaDoorTextBackB29
import Derived.Test.YtkkekbnhndfhjaaDoorTextBackB27
import Derived.Test.YtkkekbnhndfhjaaDoorTextBackB10
import Derived.Test.YtkkekbnhndfhjaaDoorTextBackB22

namespace Go.Proofs.YtkkekbnhndfhjaaDoor
open Go.ChangeShapes Go.WideShapes Go.ChangeAt Go.RowKit
set_option linter.unusedVariables false
set_option linter.unusedSimpArgs false
theorem text_ne {p : LProg} (hh : hardOk p = true) (hf : ∀ i ∈ p.code, i.fits) : textT p ≠ [] := by
  obtain ⟨-, -, h1⟩ := lines_len hh hf
  rw [textT_lines]
  intro e
  have : (linesT p).flatMap (· ++ [10]) = [] := e
  cases hl : linesT p with
  | nil => rw [hl] at h1; simp at h1
  | cons x r => rw [hl] at this; simp at this
theorem cells2 {W : World} {g T : Nat} {a b : Value} (h : Blk W g T #[a, b]) : (W.cell? ⟨g, 0, none⟩ = some a ∧ W.frozen? ⟨g, 0, none⟩ = false) ∧ (W.cell? ⟨g, 1, none⟩ = some b ∧ W.frozen? ⟨g, 1, none⟩ = false) :=
  ⟨⟨by rw [h.cell]; rfl, h.frozen _⟩, ⟨by rw [h.cell]; rfl, h.frozen _⟩⟩
set_option maxHeartbeats 4000000 in
theorem textBack_walk {p : LProg} {v : Value} {w : World} (hp : ProgAt w v p) (ht : Tab9 w) :
    Calls Tryd.prog 5 #[v] w fun e w' => e = .returned (.bool true) ∧ Ext w w' := by
  have HP := Lib.hid hp
  have Ht := Lib.hid ht
  obtain ⟨v1, v2, rfl, -, hcode⟩ := hp
  have Hf := Lib.hid hcode.1
  clear ht hcode
  have C := Lib.hid fun W (X : Ext w W) => print_c p _ W (HP.out.ext X) (Ht.out.tabs.ext X)
  cases hh : hardOk p
  · have hT : printT p = [] := by simp [printT, hh]
    have hE : printE p = 2 := by simp [printE, hh]
    rw [hT, hE] at C
    clear hT hE hh
    go_enter Tryd.func5, Tryd.ntmps5
    go_wp2_with fail
    obtain ⟨W, g, hg, hW, hx, bP⟩ := block1 w #[v1, v2] 25
    rw [hW, hg]
    have X := Lib.hid hx
    clear hW hg hx
    (with_reducible refine (C.out _ X.out).mono ?_)
    rintro e w1 ⟨rfl, hx⟩
    have X := Lib.hid (X.out.trans hx)
    clear hx bP
    go_wp2
    go_ret
    exact ⟨rfl, X.out⟩
  · have hT : printT p = textT p := by simp [printT, hh]
    have hE : printE p = 0 := by simp [printE, hh]
    have hlen := (lines_len hh Hf.out).1
    have hne : (textT p != []) = true := by simpa using text_ne hh Hf.out
    have P2 := Lib.hid fun W (X : Ext w W) => parse_c (textT p) (by omega) W (Ht.out.ext X)
    unfold ParsePost at P2
    rw [text_parse hh (fun i hi => (Hf.out i hi).2.2.2.2)] at P2
    rw [hT, hE] at C
    simp only at P2
    generalize textT p = T at *
    clear hT hE hh hlen
    go_enter Tryd.func5, Tryd.ntmps5
    go_wp2_with fail
    obtain ⟨W, g, hg, hW, hx, bP⟩ := block1 w #[v1, v2] 25
    rw [hW, hg]
    have X := Lib.hid hx
    clear hW hg hx
    (with_reducible refine (C.out _ X.out).mono ?_)
    rintro e w1 ⟨rfl, hx⟩
    have X := Lib.hid (X.out.trans hx)
    have bP := bP.ext hx
    clear hx
    go_wp2_with fail
    (with_reducible refine (P2.out _ X.out).mono ?_)
    rintro e w2 ⟨u, rfl, hu, hf, hx⟩
    obtain ⟨oa2, na2, ca2, ob2, nb2, cb2, rfl⟩ := prog_sl hu
    have X := Lib.hid (X.out.trans hx)
    have HU := Lib.hid hu
    have bP := bP.ext hx
    clear hx hu hf P2
    go_upto_region 5 with fail
    obtain ⟨W2, g2, hg, hW, hx, bP2, bF2⟩ := blocks2 w2 #[.slice oa2 na2 ca2, .slice ob2 nb2 cb2] #[.int .i64 0, .int .i64 0] 25 32
    rw [hW, hg]
    have X := Lib.hid (X.out.trans hx)
    have HU := Lib.hid (HU.out.ext hx)
    have bP := bP.ext hx
    clear hW hg hx
    obtain ⟨a0, a1⟩ := cells2 bP
    obtain ⟨b0, b1⟩ := cells2 bP2
    obtain ⟨h0, h1⟩ := cells2 bF2
    have l1 := bP.lt
    have l3 := bP2.lt
    have l4 := bF2.lt
    clear bP bP2 bF2
    go_wp2_with fail
    (with_reducible refine (rSame_c p _ _ W2 (HP.out.ext X.out) HU.out).mono ?_)
    rintro e w3 ⟨rfl, hx⟩
    have X := Lib.hid (X.out.trans hx)
    clear hx a0 a1 b0 b1 h0 h1 l1 l3 l4
    go_wp2
    go_ret
    have hie : T.isEmpty = false := by
      cases T with
      | nil => simp at hne
      | cons x r => rfl
    exact ⟨by show Ending.returned (.bool (!T.isEmpty)) = .returned (.bool true); rw [hie]; rfl, X.out⟩
end Go.Proofs.YtkkekbnhndfhjaaDoor
