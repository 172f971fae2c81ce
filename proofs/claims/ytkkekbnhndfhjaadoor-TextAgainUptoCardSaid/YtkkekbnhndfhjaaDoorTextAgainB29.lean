/- Laid together from: TxR. -/
import Derived.Test.YtkkekbnhndfhjaaDoorTextAgainB28
import Derived.Test.YtkkekbnhndfhjaaDoorTextAgainB26
import Derived.Test.YtkkekbnhndfhjaaDoorTextAgainB10
import Derived.Test.YtkkekbnhndfhjaaDoorTextAgainB21

namespace Go.Proofs.YtkkekbnhndfhjaaDoor
open Go.ChangeShapes Go.WideShapes Go.ChangeAt Go.RowKit
set_option linter.unusedVariables false
set_option linter.unusedSimpArgs false
theorem go_fault : ∀ (ls : List (List UInt8)) (k : Nat) (p q : LProg) (a b : Int), parseGo ls k p = (q, a, b) → a = 0 ∨ (a = 2 ∧ q = ⟨[], []⟩)
  | [], k, p, q, a, b, h => by
    simp only [parseGo, Prod.mk.injEq] at h
    exact .inr ⟨h.2.1.symm, h.1.symm⟩
  | l :: ls, k, p, q, a, b, h => by
    unfold parseGo at h
    split at h
    · split at h
      · simp only [Prod.mk.injEq] at h
        exact .inl h.2.1.symm
      · simp only [Prod.mk.injEq] at h
        exact .inr ⟨h.2.1.symm, h.1.symm⟩
    · split at h
      · simp only [Prod.mk.injEq] at h
        exact .inr ⟨h.2.1.symm, h.1.symm⟩
      · exact go_fault ls _ _ _ _ _ h
theorem fence_parse : parseT [102, 101, 110, 99, 101, 10] = (⟨[], [⟨12, 0, 0, 0, 0⟩]⟩, 0, 0) := by rfl
theorem cells2 {W : World} {g T : Nat} {a b : Value} (h : Blk W g T #[a, b]) : (W.cell? ⟨g, 0, none⟩ = some a ∧ W.frozen? ⟨g, 0, none⟩ = false) ∧ (W.cell? ⟨g, 1, none⟩ = some b ∧ W.frozen? ⟨g, 1, none⟩ = false) :=
  ⟨⟨by rw [h.cell]; rfl, h.frozen _⟩, ⟨by rw [h.cell]; rfl, h.frozen _⟩⟩
set_option maxHeartbeats 4000000 in
theorem textAgain_walk (s : List UInt8) (hs : s.length ≤ 1000000000) (w : World) (ht : Tab9 w) :
    Calls Tryd.prog 6 #[str s] w fun e w' => e = .returned (.bool true) ∧ Ext w w' := by
  have Ht := Lib.hid ht
  have P1 := Lib.hid (parse_c [102, 101, 110, 99, 101, 10] (by simp) w ht)
  have P2 := Lib.hid fun W (X : Ext w W) => parse_c s hs W (Ht.out.ext X)
  unfold ParsePost at P1 P2
  rw [fence_parse] at P1
  simp only at P1
  have HR := Lib.hid (show ∃ q a k, parseT s = (q, a, k) from ⟨_, _, _, rfl⟩)
  clear ht hs
  go_enter Tryd.func6, Tryd.ntmps6
  go_wp2_with fail
  (with_reducible refine P1.out.mono ?_)
  rintro e w1 ⟨u, rfl, hu, -, hx⟩
  obtain ⟨v1, v2, rfl, ⟨-, oa, cap, b, o, rfl, -⟩, ⟨-, ob, capb, b2, o2, rfl, -⟩⟩ := hu
  have X := Lib.hid hx
  clear hx P1
  go_upto_region 2 with fail
  obtain ⟨W, g, hg, hW, hx, bP, bF⟩ := blocks2 w1 #[.slice oa ([] : List LReg).length cap, .slice ob ([⟨12, 0, 0, 0, 0⟩] : List LIns).length capb] #[.int .i64 0, .int .i64 0] 25 32
  try simp only [List.length_nil, List.length_cons, Nat.zero_add] at hW bP
  rw [hW, hg]
  have X := Lib.hid (X.out.trans hx)
  clear hW hg hx
  obtain ⟨a0, a1⟩ := cells2 bP
  have l1 := bP.lt
  clear bP bF
  go_wp2_with fail
  (with_reducible refine (P2.out _ X.out).mono ?_)
  obtain ⟨q, a, k, hR⟩ := HR.out
  have Hback := Lib.hid (fun h : a = 0 => parse_text (by rw [hR, h] : parseT s = (q, 0, k)))
  have Hfault := Lib.hid (go_fault _ _ _ _ _ _ hR)
  simp only [hR]
  rintro e w2 ⟨u, rfl, hu, hf, hx⟩
  have HU := Lib.hid hu
  obtain ⟨v1, v2, rfl, ⟨-, oa2, cap2, b, o, rfl, -⟩, ⟨-, ob2, capb2, b2, o2, rfl, -⟩⟩ := hu
  have X := Lib.hid (X.out.trans hx)
  clear hx P2 a0 a1 l1 HR hR
  go_upto_region 5 with fail
  obtain ⟨W2, g2, hg, hW, hx, bP2, bF2⟩ := blocks2 w2 #[.slice oa2 q.regs.length cap2, .slice ob2 q.code.length capb2] #[.int .i64 a, .int .i64 k] 25 32
  rw [hW, hg]
  have X := Lib.hid (X.out.trans hx)
  have HU := Lib.hid (HU.out.ext hx)
  clear hW hg hx
  obtain ⟨b0, b1⟩ := cells2 bP2
  obtain ⟨h0, h1⟩ := cells2 bF2
  have l3 := bP2.lt
  have l4 := bF2.lt
  clear bP2 bF2
  by_cases ha : a = 0
  · subst ha
    obtain ⟨ht, hh⟩ := Hback.out rfl
    have C := Lib.hid (print_c q _ W2 HU.out (Ht.out.tabs.ext X.out))
    have hT : printT q = s := by simp [printT, hh, ht]
    have hE : printE q = 0 := by simp [printE, hh]
    rw [hT, hE] at C
    clear hT hE ht hh Hback Hfault hf
    go_wp2_with fail
    (with_reducible refine C.out.mono ?_)
    rintro e w3 ⟨rfl, hx⟩
    have X := Lib.hid (X.out.trans hx)
    clear hx b0 b1 h0 h1 l3 l4
    go_wp2
    go_ret
    exact ⟨by simp, X.out⟩
  · obtain ⟨rfl, rfl⟩ : a = 2 ∧ q = ⟨[], []⟩ := by
      rcases Hfault.out with h | h
      · exact absurd h ha
      · exact h
    clear Hback Hfault hf ha
    try simp only [List.length_nil] at b0 b1
    go_wp2
    go_ret
    exact ⟨rfl, X.out⟩
end Go.Proofs.YtkkekbnhndfhjaaDoor
