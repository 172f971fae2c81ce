/- Laid together from: Tx1. -/
import Derived.Test.YtkkekbnhndfhjaaDoorTextPrintsB3
import Derived.Test.YtkkekbnhndfhjaaDoorTextPrintsB8
import Derived.Test.YtkkekbnhndfhjaaDoorTextPrintsB5
import Derived.Test.YtkkekbnhndfhjaaDoorProg
import Derived.Laws.BytesArg
import Derived.Laws.Concat

namespace Go.Proofs.YtkkekbnhndfhjaaDoor
open Go.ChangeShapes Go.WideShapes Go.ChangeAt Go.RowKit
set_option linter.unusedVariables false
set_option linter.unusedSimpArgs false
abbrev str (l : List UInt8) : Value := .string ⟨l.toArray⟩
theorem bytes_app (a b : List UInt8) : (⟨a.toArray⟩ : ByteArray) ++ ⟨b.toArray⟩ = ⟨(a ++ b).toArray⟩ := by
  apply ByteArray.ext
  rw [ByteArray.data_append]
  simp
theorem str_add (a b : List UInt8) (ha : a.length ≤ 4000000) (hb : b.length ≤ 4000000) (w : World) : (Op.stringOp .add ⟨a.toArray⟩ ⟨b.toArray⟩).run Tryd.prog w = .ok (.string ⟨(a ++ b).toArray⟩) w := by
  have h := run_string_add (P := Tryd.prog) (w := w) ⟨a.toArray⟩ ⟨b.toArray⟩ (by simp [ByteArray.size]; omega) (by simp [ByteArray.size]; omega)
  rw [bytes_app] at h
  exact h
theorem tdiv_parts (x : Int) : ∃ u d q : Nat, x.natAbs = u ∧ d < 10 ∧ u = 10 * q + d ∧ ((0 ≤ x ∧ x = (u : Int) ∧ x.tmod 10 = (d : Int) ∧ x.tdiv 10 = (q : Int)) ∨ (x < 0 ∧ x = -(u : Int) ∧ x.tmod 10 = -(d : Int) ∧ x.tdiv 10 = -(q : Int))) := by
  refine ⟨x.natAbs, x.natAbs % 10, x.natAbs / 10, rfl, Nat.mod_lt _ (by omega), by omega, ?_⟩
  by_cases h : 0 ≤ x
  · left
    obtain ⟨k, rfl⟩ : ∃ k : Nat, x = k := ⟨x.toNat, by omega⟩
    exact ⟨h, by simp, by rw [Int.natAbs_natCast]; rfl, by simp⟩
  · right
    obtain ⟨k, rfl⟩ : ∃ k : Nat, x = -(k : Int) := ⟨(-x).toNat, by omega⟩
    refine ⟨by omega, by simp, ?_, ?_⟩
    · rw [Int.neg_tmod, show (-(k : Int)).natAbs = k by simp]
      congr 1
    · rw [Int.neg_tdiv]; simp
set_option maxHeartbeats 2000000 in
theorem rDigits_c (n : Int) (h : R64 n) (w : World) :
    Calls Tryd.prog 17 #[.int .i64 n] w fun e w' => e = .returned (str (Lib.itoa n)) ∧ Ext w w' := by
  obtain ⟨h0, h1⟩ := h
  have hadd := str_add
  go_enter Tryd.func17, Tryd.ntmps17
  go_wp2_with fail
  go_loopw [3, 4, 5] (fun s l d wr => ∃ (m : List UInt8) (x : Int), s = str m ∧ l = .int .i64 x ∧ m.length ≤ 20 ∧ (0 ≤ n → 0 ≤ x) ∧ (n < 0 → x ≤ 0) ∧ x.natAbs ≤ n.natAbs ∧ Lib.decDigits n.natAbs = Lib.decDigits x.natAbs ++ m ∧ Ext w wr) (fun s l d _ => (intOf l).natAbs)
  case atStart => exact ⟨[], n, rfl, rfl, by simp, fun h => h, fun h => by omega, Nat.le_refl _, by simp, Ext.refl _⟩
  case round =>
    obtain ⟨m, x, rfl, rfl, hm, hp, hn, hle, hd, hE⟩ := hrel
    have Hd := Lib.hid hd
    have X := Lib.hid hE
    clear hd hE
    have hconv : ∀ (k : Nat) (z : Int) (W : World), W.cell? ⟨k, 0, none⟩ = some (.int .u8 z) → (convert 57 9 (.slice (some ⟨k, 0, none⟩) 1 1)).run Tryd.prog W = .ok (str [UInt8.ofNat z.toNat]) W := fun k z W hc =>
      run_convert_bytes_arg W 57 5 Tryd.underlying57 Tryd.underlying5 k 0 1 1 [z] rfl (fun i hi => by
        obtain rfl : i = 0 := by omega
        exact hc) 9 Tryd.underlying9
    obtain ⟨u, d, q, hu, hd10, hdq, hx⟩ := tdiv_parts x
    have Hu := Lib.hid hu
    have hwd : ((48 : Int) + (d : Int)) % 256 = 48 + (d : Int) := by omega
    have hdn : Hid (Lib.decDigits x.natAbs = if q = 0 then [UInt8.ofNat (48 + d)] else Lib.decDigits q ++ [UInt8.ofNat (48 + d)]) := Lib.hid (by
      rw [hu]
      by_cases hq : q = 0
      · rw [if_pos hq, dec_small (by omega), show u = d by omega]
      · rw [if_neg hq, dec_big (by omega), show u / 10 = q by omega, show u % 10 = d by omega])
    have Hs0 : Hid (q = 0 → Lib.decDigits n.natAbs = UInt8.ofNat (48 + d) :: m) := Lib.hid fun hq => by
      rw [Hd.out, hdn.out, if_pos hq]
      rfl
    have Hs1 : Hid (q ≠ 0 → Lib.decDigits n.natAbs = Lib.decDigits q ++ (UInt8.ofNat (48 + d) :: m)) := Lib.hid fun hq => by
      rw [Hd.out, hdn.out, if_neg hq, List.append_assoc]
      rfl
    have hql : q ≤ n.natAbs ∧ (q ≠ 0 → q < x.natAbs) := ⟨by omega, fun h => by omega⟩
    have Hql := Lib.hid hql
    have hqb : q ≤ 1000000000000000000 := by omega
    have hdx : (d : Int) % 10 = (d : Int) := by omega
    have Hdq := Lib.hid hdq
    clear hdn Hd hdq hle hql
    have Hlen : Hid (q ≠ 0 → (UInt8.ofNat (48 + d) :: m).length ≤ 20) := Lib.hid fun hq => by
      have h2 := dec_len 19 n.natAbs (by simp; omega)
      rw [Hs1.out hq, List.length_append] at h2
      omega
    rcases hx with ⟨hx0, hx1, hx2, hx3⟩ | ⟨hx0, hx1, hx2, hx3⟩
    · have hqx : 10 * (q : Int) ≤ x := by have := Hdq.out; omega
      clear hx1 hu
      by_cases hq : q = 0
      · subst hq
        by_cases hn0 : n < 0
        · skip
          have Hi : Hid (Lib.itoa n = 45 :: UInt8.ofNat (48 + d) :: m) := Lib.hid (by unfold Lib.itoa; rw [if_pos hn0, Hs0.out rfl])
          go_wp2
          go_ret
          refine ⟨?_, X.out.alloc _⟩
          rw [Hi.out]
          simp [bytes_app, str]
        · skip
          have Hi : Hid (Lib.itoa n = UInt8.ofNat (48 + d) :: m) := Lib.hid (by unfold Lib.itoa; rw [if_neg hn0, show n.toNat = n.natAbs by omega, Hs0.out rfl])
          go_wp2
          go_ret
          refine ⟨?_, X.out.alloc _⟩
          rw [Hi.out]
          simp [bytes_app, str]
      · skip
        have hq1 : ((q : Int) == 0) = false := by simpa using hq
        have hq2 : (-(q : Int) == 0) = false := by simpa using hq
        go_wp2
        go_roundw
        case rel => exact ⟨UInt8.ofNat (48 + d) :: m, _, by simp [str, bytes_app], rfl, Hlen.out hq, by omega, by omega, by simpa using Hql.out.1, by rw [Hs1.out hq]; simp, X.out.alloc _⟩
        case measure => simpa [intOf] using Hql.out.2 hq
    · have hn0 : n < 0 := by omega
      clear hx1 hu
      by_cases hd0 : d = 0
      · subst hd0
        have hx2 : x.tmod 10 = 0 := by simpa using hx2
        by_cases hq : q = 0
        · subst hq
          have hx3 : x.tdiv 10 = 0 := by simpa using hx3
          have Hi : Hid (Lib.itoa n = 45 :: UInt8.ofNat (48 + 0) :: m) := Lib.hid (by unfold Lib.itoa; rw [if_pos hn0, Hs0.out rfl])
          go_wp2
          go_ret
          refine ⟨?_, X.out.alloc _⟩
          rw [Hi.out]
          simp [bytes_app, str]
        · skip
          have hq1 : ((q : Int) == 0) = false := by simpa using hq
          have hq2 : (-(q : Int) == 0) = false := by simpa using hq
          go_wp2
          go_roundw
          case rel => exact ⟨UInt8.ofNat (48 + 0) :: m, _, by simp [str, bytes_app], rfl, Hlen.out hq, by omega, by omega, by simpa using Hql.out.1, by rw [Hs1.out hq]; simp, X.out.alloc _⟩
          case measure => simpa [intOf] using Hql.out.2 hq
      · have hdp : 0 < d := by omega
        by_cases hq : q = 0
        · subst hq
          have hx3 : x.tdiv 10 = 0 := by simpa using hx3
          have Hi : Hid (Lib.itoa n = 45 :: UInt8.ofNat (48 + d) :: m) := Lib.hid (by unfold Lib.itoa; rw [if_pos hn0, Hs0.out rfl])
          go_wp2
          go_ret
          refine ⟨?_, X.out.alloc _⟩
          rw [Hi.out]
          simp [bytes_app, str]
        · skip
          have hq1 : ((q : Int) == 0) = false := by simpa using hq
          have hq2 : (-(q : Int) == 0) = false := by simpa using hq
          go_wp2
          go_roundw
          case rel => exact ⟨UInt8.ofNat (48 + d) :: m, _, by simp [str, bytes_app], rfl, Hlen.out hq, by omega, by omega, by simpa using Hql.out.1, by rw [Hs1.out hq]; simp, X.out.alloc _⟩
          case measure => simpa [intOf] using Hql.out.2 hq
end Go.Proofs.YtkkekbnhndfhjaaDoor
