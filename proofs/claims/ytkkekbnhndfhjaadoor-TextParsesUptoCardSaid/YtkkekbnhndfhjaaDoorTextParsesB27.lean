/- Laid together from: Txd, Txf, Txe. -/
import Derived.Test.YtkkekbnhndfhjaaDoorTextParsesB25
import Derived.Test.YtkkekbnhndfhjaaDoorTextParsesB10

namespace Go.Proofs.YtkkekbnhndfhjaaDoor
open Go.ChangeShapes Go.WideShapes Go.ChangeAt Go.RowKit
set_option linter.unusedVariables false
set_option linter.unusedSimpArgs false
def RNumPost (s : List UInt8) (most : Nat) (w : World) (e : Ending) (w' : World) : Prop :=
  ∃ n b, e = .returned (.tuple #[.int .i64 n, .bool b]) ∧ R64 n ∧ ((b = true ∧ refN s most = some n) ∨ (b = false ∧ refN s most = none)) ∧ Ext w w'
theorem RNumPost.no {s : List UInt8} {most : Nat} {w : World} (h : refN s most = none) : RNumPost s most w (.returned (.tuple #[.int .i64 0, .bool false])) w :=
  ⟨0, false, rfl, ⟨by omega, by omega⟩, .inr ⟨rfl, h⟩, Ext.refl _⟩
theorem RNumPost.yes {s : List UInt8} {most : Nat} {w : World} {n : Int} (hn : R64 n) (h : refN s most = some n) : RNumPost s most w (.returned (.tuple #[.int .i64 n, .bool true])) w :=
  ⟨n, true, rfl, hn, .inl ⟨rfl, h⟩, Ext.refl _⟩
def restN (below : Bool) (T : List UInt8) : Option Int :=
  match refLoop below 0 T with
  | none => none
  | some n => some (if below then n else 0 - n)
theorem refN_rest (s T : List UInt8) (d : UInt8) (r : List UInt8) (hT : T = d :: r) (below : Bool) (hb : below = decide (s.head? = some 45)) (ht : T = if s.head? = some 45 then s.drop 1 else s) (most : Nat) :
    refN s most = if most < T.length ∨ (d.toNat = 48 ∧ (1 < T.length ∨ below = true)) then none else restN below T := by
  unfold refN restN
  rw [← hb, ← ht]
  have e : (T.head? = some 48) = (d.toNat = 48) := by
    rw [hT, List.head?_cons, Option.some.injEq]
    exact propext ⟨fun e => by rw [e]; rfl, fun e => UInt8.toNat_inj.1 e⟩
  have e2 : (T.length < 1) = False := by rw [hT]; simp
  simp only [e, e2, false_or]
  by_cases h : most < T.length ∨ (d.toNat = 48 ∧ (1 < T.length ∨ below = true))
  · rw [if_pos h, if_pos h]
  · rw [if_neg h, if_neg h]
    rfl
theorem rest_step (below : Bool) (a d : Nat) (x : UInt8) (l : List UInt8) (hx : x.toNat = 48 + d) (hd : d ≤ 9) (ha : a ≤ bnd below) : refLoop below (-(a : Int)) (x :: l) = if bnd below < 10 * a + d then none else refLoop below (-((10 * a + d : Nat) : Int)) l := by
  have h1 : isD x = true := by unfold isD; rw [hx]; simp; omega
  have h2 : x.toNat - 48 = d := by omega
  have h3 := over10 below a d hd ha
  rw [refLoop, if_neg (by simp [h1]), h2]
  by_cases ho : bnd below < 10 * a + d
  · rw [if_pos ho, if_pos (h3.2 ho)]
  · rw [if_neg ho, if_neg (fun h => ho (h3.1 h)), show 10 * -(a : Int) - (d : Int) = -((10 * a + d : Nat) : Int) by omega]
theorem rest_bad (below : Bool) (n : Int) (x : UInt8) (l : List UInt8) (hx : x.toNat < 48 ∨ 57 < x.toNat) : refLoop below n (x :: l) = none := by
  rw [refLoop, if_pos]
  unfold isD
  simp; omega
theorem quo10 (d : Nat) (h : d ≤ 9) : ∃ q : Int, Int.tdiv (-9223372036854775807 + (d : Int)) 10 = q ∧ ((d ≤ 7 ∧ q = -922337203685477580) ∨ (8 ≤ d ∧ q = -922337203685477579)) := by
  have := tdiv10 d h
  split at this
  · exact ⟨_, this, .inl ⟨by omega, rfl⟩⟩
  · exact ⟨_, this, .inr ⟨by omega, rfl⟩⟩
set_option maxRecDepth 100000 in
set_option maxHeartbeats 16000000 in
theorem rnumber_c (s : List UInt8) (most : Nat) (hm : most ≤ 19) (hs : s.length ≤ 1000000000) (w : World) :
    Calls Tryd.prog 22 #[str s, .int .i64 most] w (RNumPost s most w) := by
  cases s with
  | nil =>
    have HR : Hid (refN [] most = none) := Lib.hid rfl
    go_enter Tryd.func22, Tryd.ntmps22
    go_wp2
    go_ret2
    exact .no HR.out
  | cons c r =>
    by_cases hb : c = 45
    · subst hb
      cases r with
      | nil =>
        have HR : Hid (refN [45] most = none) := Lib.hid rfl
        go_enter Tryd.func22, Tryd.ntmps22
        go_wp2
        go_ret2
        exact .no HR.out
      | cons d r =>
        have HR := Lib.hid (refN_rest (45 :: d :: r) (d :: r) d r rfl true rfl rfl most)
        have hsz := str_size (45 :: d :: r)
        have hix0 : ∀ W, (Instr.index 9 (str (45 :: d :: r)) (.int .i64 0)).run Tryd.prog W = .ok (.int .u8 45) W := fun W => by simpa using str_index (45 :: d :: r) 0 45 rfl W
        have hixT : ∀ W, (Instr.index 9 (str (d :: r)) (.int .i64 0)).run Tryd.prog W = .ok (.int .u8 (d.toNat : Int)) W := fun W => by simpa using str_index (d :: r) 0 d rfl W
        have hT : ∀ k, k = (45 :: d :: r).length → ((⟨(45 :: d :: r).toArray⟩ : ByteArray).extract 1 k) = ⟨(d :: r).toArray⟩ := fun k hk => by
          subst hk
          apply ByteArray.ext
          rw [ByteArray.data_extract]
          simp
        have hl : (45 :: d :: r).length = (d :: r).length + 1 := rfl
        have h1 : 1 ≤ (d :: r).length := by simp
        have hd1 : decide (((d :: r).length : Int) < 1) = false := by simp; omega
        generalize (45 :: d :: r : List UInt8) = S at *
        generalize (d :: r : List UInt8) = T at *
        generalize d.toNat = m at *
        have hT2 := hT (T.length + 1) hl.symm
        have hsT := str_size T
        clear hT
        by_cases hmo : most < T.length
        · skip
          go_enter Tryd.func22, Tryd.ntmps22
          go_wp2
          all_goals go_ret2
          all_goals exact .no (by rw [HR.out]; rw [if_pos (.inl hmo)])
        by_cases h48 : m = 48
        · subst h48
          go_enter Tryd.func22, Tryd.ntmps22
          go_wp2
          all_goals go_ret2
          all_goals exact .no (by rw [HR.out]; simp)
        · have h48b : ((m : Int) == 48) = false := by simpa using (show ¬ (m : Int) = 48 by omega)
          rw [if_neg (by simp only [or_true, and_true]; omega)] at HR
          go_enter Tryd.func22, Tryd.ntmps22
          go_wp2_with fail
          go_loopw [7, 8, 9] (fun nv iv dv wr => ∃ a j : Nat, j ≤ T.length ∧ iv = .int .i64 j ∧ nv = .int .i64 (-(a : Int)) ∧ a ≤ bnd true ∧ refLoop true (-(a : Int)) (T.drop j) = refLoop true 0 T ∧ wr = w) (fun _ i _ _ => T.length - (intOf i).toNat)
          case atStart => exact ⟨0, 0, by omega, rfl, rfl, by omega, rfl, rfl⟩
          case round =>
            obtain ⟨a, j, hj, rfl, rfl, ha, hR, rfl⟩ := hrel
            have hR := Lib.hid hR
            have Ha := Lib.hid ha
            have ha2 : a ≤ 9223372036854775808 := by have := Ha.out; simp only [bnd, if_true, Bool.false_eq_true, if_false] at this; omega
            clear ha
            by_cases hlt : j < T.length
            · have hix := str_index T j T[j] (by simp [hlt])
              have hdr : T.drop j = T[j] :: T.drop (j + 1) := List.drop_eq_getElem_cons hlt
              rw [hdr] at hR
              generalize T[j] = x at *
              clear hdr
              by_cases hlo : x.toNat < 48
              · skip
                have HN : Hid (refLoop true 0 T = none) := Lib.hid (by rw [← hR.out, rest_bad _ _ _ _ (.inl hlo)])
                generalize x.toNat = m at *
                go_wp2
                go_ret2
                exact .no (by rw [HR.out, restN, HN.out])
              by_cases hhi : 57 < x.toNat
              · skip
                have HN : Hid (refLoop true 0 T = none) := Lib.hid (by rw [← hR.out, rest_bad _ _ _ _ (.inr hhi)])
                generalize x.toNat = m at *
                go_wp2
                go_ret2
                exact .no (by rw [HR.out, restN, HN.out])
              obtain ⟨d, hd⟩ : ∃ d, x.toNat = 48 + d := ⟨x.toNat - 48, by omega⟩
              have hd9 : d ≤ 9 := by omega
              have hR2 : Hid ((if bnd true < 10 * a + d then none else refLoop true (-((10 * a + d : Nat) : Int)) (T.drop (j + 1))) = refLoop true 0 T) := Lib.hid (by rw [← rest_step true a d x _ hd hd9 Ha.out]; exact hR.out)
              obtain ⟨q, hq, hqd⟩ := quo10 d hd9
              rw [hd] at hix
              clear hR hlo hhi hd
              have hwd : ((48 : Int) + (d : Int) - 48) % 256 = (d : Int) := by omega
              have hwd2 : (48 : Int) + (d : Int) - 48 = (d : Int) := by omega
              have hw1 : (((48 + d : Nat) : Int)) = 48 + (d : Int) := by omega
              by_cases g1 : -(a : Int) < q
              · skip
                by_cases g2 : -(a : Int) = -922337203685477580
                · by_cases g3 : d = 8
                  · skip
                    have HN : Hid (refLoop true (-((10 * a + d : Nat) : Int)) (T.drop (j + 1)) = refLoop true 0 T) := Lib.hid (by rw [← hR2.out, if_neg (by simp only [bnd, if_true, Bool.false_eq_true, if_false]; omega)])
                    have hnx : 10 * a + d ≤ 9223372036854775808 := by omega
                    go_wp2
                    go_roundw
                    case rel => exact ⟨10 * a + d, j + 1, by omega, by go_num, by first | go_num | (congr 1; omega), by simp only [bnd, if_true, Bool.false_eq_true, if_false]; omega, HN.out, by first | rfl | trivial⟩
                    case measure => first | (simp [intOf]; done) | (simp [intOf]; omega)
                  · have g3b : ((d : Int) == 8) = false := by simpa using (show ¬ (d : Int) = 8 by omega)
                    have HN : Hid (refLoop true 0 T = none) := Lib.hid (by rw [← hR2.out, if_pos (by simp only [bnd, if_true, Bool.false_eq_true, if_false]; omega)])
                    go_wp2
                    go_ret2
                    exact .no (by rw [HR.out, restN, HN.out])
                · have g2b : (-(a : Int) == -922337203685477580) = false := by simpa using g2
                  have HN : Hid (refLoop true 0 T = none) := Lib.hid (by rw [← hR2.out, if_pos (by simp only [bnd, if_true, Bool.false_eq_true, if_false]; omega)])
                  go_wp2
                  go_ret2
                  exact .no (by rw [HR.out, restN, HN.out])
              · skip
                have HN : Hid (refLoop true (-((10 * a + d : Nat) : Int)) (T.drop (j + 1)) = refLoop true 0 T) := Lib.hid (by rw [← hR2.out, if_neg (by simp only [bnd, if_true, Bool.false_eq_true, if_false]; omega)])
                have hnx : 10 * a + d ≤ 9223372036854775808 := by omega
                go_wp2
                go_roundw
                case rel => exact ⟨10 * a + d, j + 1, by omega, by go_num, by first | go_num | (congr 1; omega), by simp only [bnd, if_true, Bool.false_eq_true, if_false]; omega, HN.out, by first | rfl | trivial⟩
                case measure => first | (simp [intOf]; done) | (simp [intOf]; omega)
            · have hje : j = T.length := by omega
              subst hje
              rw [List.drop_length] at hR
              have HN : Hid (refLoop true 0 T = some (-(a : Int))) := Lib.hid (by rw [← hR.out]; rfl)
              clear hR
              go_wp2
              go_ret2
              exact .yes (n := -(a : Int)) ⟨by omega, by omega⟩ (by rw [HR.out, restN, HN.out]; rfl)
    · have hbm : ¬ c.toNat = 45 := fun e => hb (UInt8.toNat_inj.1 e)
      have HR := Lib.hid (refN_rest (c :: r) (c :: r) c r rfl false (by simp [hb]) (by simp [hb]) most)
      have hsz := str_size (c :: r)
      have hixT : ∀ W, (Instr.index 9 (str (c :: r)) (.int .i64 0)).run Tryd.prog W = .ok (.int .u8 (c.toNat : Int)) W := fun W => by simpa using str_index (c :: r) 0 c rfl W
      have h1l : 1 ≤ (c :: r).length := by simp
      have hd1 : decide (((c :: r).length : Int) < 1) = false := by simp; omega
      generalize (c :: r : List UInt8) = T at *
      generalize c.toNat = m at *
      have hbm2 : ((m : Int) == 45) = false := by simpa using (show ¬ (m : Int) = 45 by omega)
      by_cases hmo : most < T.length
      · skip
        go_enter Tryd.func22, Tryd.ntmps22
        go_wp2
        all_goals go_ret2
        all_goals exact .no (by rw [HR.out]; rw [if_pos (.inl hmo)])
      by_cases h48 : m = 48
      · subst h48
        by_cases h1 : 1 < T.length
        · skip
          go_enter Tryd.func22, Tryd.ntmps22
          go_wp2
          all_goals go_ret2
          all_goals exact .no (by rw [HR.out]; simp [h1])
        · skip
          rw [if_neg (by simp only [Bool.false_eq_true, or_false, and_true]; omega)] at HR
          go_enter Tryd.func22, Tryd.ntmps22
          go_wp2_with fail
          go_loopw [7, 8, 9] (fun nv iv dv wr => ∃ a j : Nat, j ≤ T.length ∧ iv = .int .i64 j ∧ nv = .int .i64 (-(a : Int)) ∧ a ≤ bnd false ∧ refLoop false (-(a : Int)) (T.drop j) = refLoop false 0 T ∧ wr = w) (fun _ i _ _ => T.length - (intOf i).toNat)
          case atStart => exact ⟨0, 0, by omega, rfl, rfl, by omega, rfl, rfl⟩
          case round =>
            obtain ⟨a, j, hj, rfl, rfl, ha, hR, rfl⟩ := hrel
            have hR := Lib.hid hR
            have Ha := Lib.hid ha
            have ha2 : a ≤ 9223372036854775807 := by have := Ha.out; simp only [bnd, if_true, Bool.false_eq_true, if_false] at this; omega
            clear ha
            by_cases hlt : j < T.length
            · have hix := str_index T j T[j] (by simp [hlt])
              have hdr : T.drop j = T[j] :: T.drop (j + 1) := List.drop_eq_getElem_cons hlt
              rw [hdr] at hR
              generalize T[j] = x at *
              clear hdr
              by_cases hlo : x.toNat < 48
              · skip
                have HN : Hid (refLoop false 0 T = none) := Lib.hid (by rw [← hR.out, rest_bad _ _ _ _ (.inl hlo)])
                generalize x.toNat = m at *
                go_wp2
                go_ret2
                exact .no (by rw [HR.out, restN, HN.out])
              by_cases hhi : 57 < x.toNat
              · skip
                have HN : Hid (refLoop false 0 T = none) := Lib.hid (by rw [← hR.out, rest_bad _ _ _ _ (.inr hhi)])
                generalize x.toNat = m at *
                go_wp2
                go_ret2
                exact .no (by rw [HR.out, restN, HN.out])
              obtain ⟨d, hd⟩ : ∃ d, x.toNat = 48 + d := ⟨x.toNat - 48, by omega⟩
              have hd9 : d ≤ 9 := by omega
              have hR2 : Hid ((if bnd false < 10 * a + d then none else refLoop false (-((10 * a + d : Nat) : Int)) (T.drop (j + 1))) = refLoop false 0 T) := Lib.hid (by rw [← rest_step false a d x _ hd hd9 Ha.out]; exact hR.out)
              obtain ⟨q, hq, hqd⟩ := quo10 d hd9
              rw [hd] at hix
              clear hR hlo hhi hd
              have hwd : ((48 : Int) + (d : Int) - 48) % 256 = (d : Int) := by omega
              have hwd2 : (48 : Int) + (d : Int) - 48 = (d : Int) := by omega
              have hw1 : (((48 + d : Nat) : Int)) = 48 + (d : Int) := by omega
              by_cases g1 : -(a : Int) < q
              · skip
                have HN : Hid (refLoop false 0 T = none) := Lib.hid (by rw [← hR2.out, if_pos (by simp only [bnd, if_true, Bool.false_eq_true, if_false]; omega)])
                go_wp2
                go_ret2
                exact .no (by rw [HR.out, restN, HN.out])
              · skip
                have HN : Hid (refLoop false (-((10 * a + d : Nat) : Int)) (T.drop (j + 1)) = refLoop false 0 T) := Lib.hid (by rw [← hR2.out, if_neg (by simp only [bnd, if_true, Bool.false_eq_true, if_false]; omega)])
                have hnx : 10 * a + d ≤ 9223372036854775807 := by omega
                go_wp2
                go_roundw
                case rel => exact ⟨10 * a + d, j + 1, by omega, by go_num, by first | go_num | (congr 1; omega), by simp only [bnd, if_true, Bool.false_eq_true, if_false]; omega, HN.out, by first | rfl | trivial⟩
                case measure => first | (simp [intOf]; done) | (simp [intOf]; omega)
            · have hje : j = T.length := by omega
              subst hje
              rw [List.drop_length] at hR
              have HN : Hid (refLoop false 0 T = some (-(a : Int))) := Lib.hid (by rw [← hR.out]; rfl)
              clear hR
              have hne : (-(a : Int) != -9223372036854775808) = true := by simpa using (show ¬ -(a : Int) = -9223372036854775808 by omega)
              have hz : (0 : Int) - -(a : Int) = a := by omega
              go_wp2
              go_ret2
              exact .yes (n := (a : Int)) ⟨by omega, by omega⟩ (by rw [HR.out, restN, HN.out]; simp)
      · have h48b : ((m : Int) == 48) = false := by simpa using (show ¬ (m : Int) = 48 by omega)
        rw [if_neg (by simp only [Bool.false_eq_true, or_false, and_true]; omega)] at HR
        go_enter Tryd.func22, Tryd.ntmps22
        go_wp2_with fail
        go_loopw [7, 8, 9] (fun nv iv dv wr => ∃ a j : Nat, j ≤ T.length ∧ iv = .int .i64 j ∧ nv = .int .i64 (-(a : Int)) ∧ a ≤ bnd false ∧ refLoop false (-(a : Int)) (T.drop j) = refLoop false 0 T ∧ wr = w) (fun _ i _ _ => T.length - (intOf i).toNat)
        case atStart => exact ⟨0, 0, by omega, rfl, rfl, by omega, rfl, rfl⟩
        case round =>
          obtain ⟨a, j, hj, rfl, rfl, ha, hR, rfl⟩ := hrel
          have hR := Lib.hid hR
          have Ha := Lib.hid ha
          have ha2 : a ≤ 9223372036854775807 := by have := Ha.out; simp only [bnd, if_true, Bool.false_eq_true, if_false] at this; omega
          clear ha
          by_cases hlt : j < T.length
          · have hix := str_index T j T[j] (by simp [hlt])
            have hdr : T.drop j = T[j] :: T.drop (j + 1) := List.drop_eq_getElem_cons hlt
            rw [hdr] at hR
            generalize T[j] = x at *
            clear hdr
            by_cases hlo : x.toNat < 48
            · skip
              have HN : Hid (refLoop false 0 T = none) := Lib.hid (by rw [← hR.out, rest_bad _ _ _ _ (.inl hlo)])
              generalize x.toNat = m at *
              go_wp2
              go_ret2
              exact .no (by rw [HR.out, restN, HN.out])
            by_cases hhi : 57 < x.toNat
            · skip
              have HN : Hid (refLoop false 0 T = none) := Lib.hid (by rw [← hR.out, rest_bad _ _ _ _ (.inr hhi)])
              generalize x.toNat = m at *
              go_wp2
              go_ret2
              exact .no (by rw [HR.out, restN, HN.out])
            obtain ⟨d, hd⟩ : ∃ d, x.toNat = 48 + d := ⟨x.toNat - 48, by omega⟩
            have hd9 : d ≤ 9 := by omega
            have hR2 : Hid ((if bnd false < 10 * a + d then none else refLoop false (-((10 * a + d : Nat) : Int)) (T.drop (j + 1))) = refLoop false 0 T) := Lib.hid (by rw [← rest_step false a d x _ hd hd9 Ha.out]; exact hR.out)
            obtain ⟨q, hq, hqd⟩ := quo10 d hd9
            rw [hd] at hix
            clear hR hlo hhi hd
            have hwd : ((48 : Int) + (d : Int) - 48) % 256 = (d : Int) := by omega
            have hwd2 : (48 : Int) + (d : Int) - 48 = (d : Int) := by omega
            have hw1 : (((48 + d : Nat) : Int)) = 48 + (d : Int) := by omega
            by_cases g1 : -(a : Int) < q
            · skip
              have HN : Hid (refLoop false 0 T = none) := Lib.hid (by rw [← hR2.out, if_pos (by simp only [bnd, if_true, Bool.false_eq_true, if_false]; omega)])
              go_wp2
              go_ret2
              exact .no (by rw [HR.out, restN, HN.out])
            · skip
              have HN : Hid (refLoop false (-((10 * a + d : Nat) : Int)) (T.drop (j + 1)) = refLoop false 0 T) := Lib.hid (by rw [← hR2.out, if_neg (by simp only [bnd, if_true, Bool.false_eq_true, if_false]; omega)])
              have hnx : 10 * a + d ≤ 9223372036854775807 := by omega
              go_wp2
              go_roundw
              case rel => exact ⟨10 * a + d, j + 1, by omega, by go_num, by first | go_num | (congr 1; omega), by simp only [bnd, if_true, Bool.false_eq_true, if_false]; omega, HN.out, by first | rfl | trivial⟩
              case measure => first | (simp [intOf]; done) | (simp [intOf]; omega)
          · have hje : j = T.length := by omega
            subst hje
            rw [List.drop_length] at hR
            have HN : Hid (refLoop false 0 T = some (-(a : Int))) := Lib.hid (by rw [← hR.out]; rfl)
            clear hR
            have hne : (-(a : Int) != -9223372036854775808) = true := by simpa using (show ¬ -(a : Int) = -9223372036854775808 by omega)
            have hz : (0 : Int) - -(a : Int) = a := by omega
            go_wp2
            go_ret2
            exact .yes (n := (a : Int)) ⟨by omega, by omega⟩ (by rw [HR.out, restN, HN.out]; simp)
def OpPost (s : List UInt8) (w : World) (e : Ending) (w' : World) : Prop := e = .returned (.tuple #[.int .i64 ((opT s).getD (-1, 0)).1, .int .i64 ((opT s).getD (-1, 0)).2]) ∧ Ext w w'
theorem all_facts : ∀ x ∈ allO, (1 ≤ x.1 ∧ x.1 ≤ 12 ∨ 21 ≤ x.1 ∧ x.1 ≤ 30) ∧ (x.1 = 8 → 1 ≤ x.2 ∧ x.2 ≤ 4) ∧ (x.1 ≠ 8 → x.2 = 0) := by decide +kernel
theorem op_found {s : List UInt8} {o c : Int} (hm : (o, c) ∈ allO) (h : wordT o c = s) : (opT s).getD (-1, 0) = (o, c) := by
  rw [← h, op_back _ hm]
  rfl
theorem op_none {s : List UInt8} (h : ∀ x ∈ allO, wordT x.1 x.2 ≠ s) : (opT s).getD (-1, 0) = (-1, 0) := by
  have : opT s = none := by
    unfold opT
    rw [List.find?_eq_none]
    intro x hx
    simpa using h x hx
  rw [this]
  rfl
theorem all_in0 (k : Int) (h : (1 ≤ k ∧ k ≤ 12) ∨ (21 ≤ k ∧ k ≤ 30)) (h8 : k ≠ 8) : (k, (0 : Int)) ∈ allO := by
  have : k = 1 ∨ k = 2 ∨ k = 3 ∨ k = 4 ∨ k = 5 ∨ k = 6 ∨ k = 7 ∨ k = 9 ∨ k = 10 ∨ k = 11 ∨ k = 12 ∨ k = 21 ∨ k = 22 ∨ k = 23 ∨ k = 24 ∨ k = 25 ∨ k = 26 ∨ k = 27 ∨ k = 28 ∨ k = 29 ∨ k = 30 := by omega
  rcases this with rfl | rfl | rfl | rfl | rfl | rfl | rfl | rfl | rfl | rfl | rfl | rfl | rfl | rfl | rfl | rfl | rfl | rfl | rfl | rfl | rfl <;> decide
theorem all_in8 (c : Int) (h : 1 ≤ c ∧ c ≤ 4) : ((8 : Int), c) ∈ allO := by
  have : c = 1 ∨ c = 2 ∨ c = 3 ∨ c = 4 := by omega
  rcases this with rfl | rfl | rfl | rfl <;> decide
set_option maxHeartbeats 8000000 in
theorem rop_c (s : List UInt8) (w : World) :
    Calls Tryd.prog 37 #[str s] w (OpPost s w) := by
  have C := Lib.hid fun (o c : Int) (ho : opIs o) (hc : o = 8 → 1 ≤ c ∧ c ≤ 4) W => rWord_c o c ho hc W
  go_enter Tryd.func37, Tryd.ntmps37
  go_wp2_with fail
  go_loopw [4, 5] (fun o _ wr => ∃ k : Nat, 1 ≤ k ∧ k ≤ 31 ∧ o = .int .i64 k ∧ (∀ x ∈ allO, x.1 < k → wordT x.1 x.2 ≠ s) ∧ Ext w wr) (fun o _ _ => 31 - (intOf o).toNat)
  case atStart => exact ⟨1, by omega, by omega, rfl, fun x hx h => by have := (all_facts x hx).1; omega, Ext.refl _⟩
  case round =>
    obtain ⟨k, h1, h31, rfl, hno, hE⟩ := hrel
    have X := Lib.hid hE
    have Hno := Lib.hid hno
    clear hE hno
    by_cases h30 : k ≤ 30
    · by_cases h8 : k = 8
      · subst h8
        rw [show ((8 : Nat) : Int) = 8 from rfl]
        go_wp2_with fail
        go_loopw [5] (fun o wr2 => ∃ c : Nat, 1 ≤ c ∧ c ≤ 5 ∧ o = .int .i64 c ∧ (∀ x ∈ allO, x.1 = 8 → x.2 < c → wordT x.1 x.2 ≠ s) ∧ Ext w wr2) (fun o _ => 5 - (intOf o).toNat)
        case atStart => exact ⟨1, by omega, by omega, rfl, fun x hx e h => by have := (all_facts x hx).2.1 e; omega, X.out⟩
        case round =>
          obtain ⟨c, c1, c5, rfl, hn2, hE⟩ := hrel
          have X := Lib.hid hE
          have Hn2 := Lib.hid hn2
          clear hE hn2
          by_cases c4 : c ≤ 4
          · go_wp2_with fail
            (with_reducible refine (C.out 8 c (by unfold opIs; omega) (fun _ => ⟨by omega, by omega⟩) _).mono ?_)
            rintro e w3 ⟨rfl, hx⟩
            have X := Lib.hid (X.out.trans hx)
            clear hx
            have hm := all_in8 (c : Int) ⟨by omega, by omega⟩
            by_cases he : wordT 8 (c : Int) = s
            · have q : (wordT 8 (c : Int) == s) = true := by simpa using he
              have HF := Lib.hid (op_found hm he)
              go_wp2
              go_ret2
              exact ⟨by rw [HF.out]; rfl, X.out⟩
            · have q : (wordT 8 (c : Int) == s) = false := by simpa using he
              have HN : Hid (∀ x ∈ allO, x.1 = 8 → x.2 < ((c + 1 : Nat) : Int) → wordT x.1 x.2 ≠ s) := Lib.hid (fun x hx e h => by
                by_cases hc : x.2 = c
                · obtain ⟨a, b⟩ := x
                  simp only at e hc ⊢
                  subst e hc
                  exact he
                · exact Hn2.out x hx e (by omega))
              go_wp2
              go_roundw
              case rel => exact ⟨c + 1, by omega, by omega, by go_num, HN.out, X.out⟩
              case measure => first | (simp [intOf]; done) | (simp [intOf]; omega)
          · obtain rfl : c = 5 := by omega
            have HN : Hid (∀ x ∈ allO, x.1 < ((9 : Nat) : Int) → wordT x.1 x.2 ≠ s) := Lib.hid (fun x hx h => by
              by_cases h8 : x.1 = 8
              · have := (all_facts x hx).2.1 h8
                exact Hn2.out x hx h8 (by omega)
              · exact Hno.out x hx (by omega))
            go_wp2
            go_roundw
            case rel => exact ⟨9, by omega, by omega, by go_num, HN.out, X.out⟩
            case measure => first | (simp [intOf]; done) | (simp [intOf]; omega)
      · have h8b : ((k : Int) == 8) = false := by simpa using (show ¬ (k : Int) = 8 by omega)
        by_cases hin : k ≤ 12 ∨ 20 < k
        · have hm := all_in0 (k : Int) (by omega) (by omega)
          have HN : Hid (wordT k 0 ≠ s → ∀ x ∈ allO, x.1 < ((k + 1 : Nat) : Int) → wordT x.1 x.2 ≠ s) := Lib.hid (fun he x hx h => by
              by_cases hc : x.1 = k
              · have h0 := (all_facts x hx).2.2 (by omega)
                obtain ⟨a, b⟩ := x
                simp only at h0 hc ⊢
                subst h0 hc
                exact he
              · exact Hno.out x hx (by omega))
          rcases hin with hin | hin
          · go_wp2_with fail
            (with_reducible refine (C.out k 0 (by unfold opIs; omega) (fun e => by omega) _).mono ?_)
            rintro e w3 ⟨rfl, hx⟩
            have X := Lib.hid (X.out.trans hx)
            clear hx
            by_cases he : wordT (k : Int) 0 = s
            · have q : (wordT (k : Int) 0 == s) = true := by simpa using he
              have HF := Lib.hid (op_found hm he)
              go_wp2
              go_ret2
              exact ⟨by rw [HF.out]; rfl, X.out⟩
            · have q : (wordT (k : Int) 0 == s) = false := by simpa using he
              have HN2 := Lib.hid (HN.out he)
              go_wp2
              go_roundw
              case rel => exact ⟨k + 1, by omega, by omega, by go_num, HN2.out, X.out⟩
              case measure => first | (simp [intOf]; done) | (simp [intOf]; omega)
          · go_wp2_with fail
            (with_reducible refine (C.out k 0 (by unfold opIs; omega) (fun e => by omega) _).mono ?_)
            rintro e w3 ⟨rfl, hx⟩
            have X := Lib.hid (X.out.trans hx)
            clear hx
            by_cases he : wordT (k : Int) 0 = s
            · have q : (wordT (k : Int) 0 == s) = true := by simpa using he
              have HF := Lib.hid (op_found hm he)
              go_wp2
              go_ret2
              exact ⟨by rw [HF.out]; rfl, X.out⟩
            · have q : (wordT (k : Int) 0 == s) = false := by simpa using he
              have HN2 := Lib.hid (HN.out he)
              go_wp2
              go_roundw
              case rel => exact ⟨k + 1, by omega, by omega, by go_num, HN2.out, X.out⟩
              case measure => first | (simp [intOf]; done) | (simp [intOf]; omega)
        · have h13 : 12 < k := by omega
          have h20 : k ≤ 20 := by omega
          have HN : Hid (∀ x ∈ allO, x.1 < ((k + 1 : Nat) : Int) → wordT x.1 x.2 ≠ s) := Lib.hid (fun x hx h => by
              by_cases hc : x.1 = k
              · have h0 := (all_facts x hx).1
                omega
              · exact Hno.out x hx (by omega))
          go_wp2
          go_roundw
          case rel => exact ⟨k + 1, by omega, by omega, by go_num, HN.out, X.out⟩
          case measure => first | (simp [intOf]; done) | (simp [intOf]; omega)
    · obtain rfl : k = 31 := by omega
      have HF : Hid ((opT s).getD (-1, 0) = (-1, 0)) := Lib.hid (op_none fun x hx => Hno.out x hx (by have := (all_facts x hx).1; omega))
      go_wp2
      go_ret2
      exact ⟨by rw [HF.out]; rfl, X.out⟩
theorem infoStrE : (Tryd.prog.info? 9).map (fun i => (i.zero, i.size, i.bytes)) = some (some (.string ⟨#[]⟩), 1, 16) := by kernel_rfl
theorem own_baseE {w : World} {base : Nat} {e : TypeId} {c n : Nat} {v : Value} {xs : List Value} (h : w.ownsRow base e c v n xs) : ∀ k, v.ownBlock = some k → base ≤ k := fun k hk => (h.lt k hk).1
def RSplitPost (c : UInt8) (s : List UInt8) (w : World) (e : Ending) (w' : World) : Prop := ∃ v, e = .returned v ∧ w'.ownsRow w.heap.size 9 1 v (splitT c s).length ((splitT c s).map str) ∧ Ext w w'
set_option maxRecDepth 100000 in
set_option maxHeartbeats 8000000 in
theorem rsplit_c (c : UInt8) (s : List UInt8) (hs : s.length ≤ 1000000000) (w : World) :
    Calls Tryd.prog 21 #[str s, .int .u8 c.toNat] w (RSplitPost c s w) := by
  obtain ⟨i0, hi0, hz0, hz1, hz2⟩ := info_parts infoStrE
  have hsz := str_size s
  have hlen := splitT_len c s
  have hcl := List.count_le_length (a := c) (l := s)
  go_enter Tryd.func21, Tryd.ntmps21
  go_wp2_with fail
  go_loopw [5, 6, 7] (fun l f i wr => ∃ (D : List (List UInt8)) (a j : Nat), a ≤ j ∧ f = .int .i64 a ∧ i = .int .i64 j ∧ wr.ownsRow w.heap.size 9 1 l D.length (D.map str) ∧ Ext w wr ∧
    ((j ≤ s.length ∧ splitT c s = D ++ splitT c (s.drop a) ∧ c ∉ (s.drop a).take (j - a)) ∨ (j = s.length + 1 ∧ splitT c s = D))) (fun _ _ i _ => s.length + 1 - (intOf i).toNat)
  case atStart => exact ⟨[], 0, 0, Nat.le_refl _, rfl, rfl, World.ownsRow_nil _ _ _ _, Ext.refl _, .inl ⟨Nat.zero_le _, by simp, by simp⟩⟩
  case round =>
    obtain ⟨D, a, j, haj, rfl, rfl, hown, hE, hc⟩ := hrel
    obtain ⟨os, cs, rfl⟩ := own_slice hown
    have XE := Lib.hid hE
    have HO := Lib.hid hown
    have hBs := hE.size
    have hsl' : s.length ≤ 1000000000 := by rw [← hsz]; exact hsz ▸ hs
    have hDl : D.length ≤ 1000000001 := by
      rcases hc with ⟨-, h, -⟩ | ⟨-, h⟩
      · have := congrArg List.length h
        rw [List.length_append] at this
        omega
      · rw [h] at hlen
        omega
    clear hE hown
    rcases hc with ⟨hj, hD, hno⟩ | ⟨rfl, hD⟩
    · have HD := Lib.hid hD
      have Hno := Lib.hid hno
      clear hD hno
      by_cases hlt : j < s.length
      · have hix := str_index s j s[j] (by simp [hlt])
        by_cases hx : s[j] = c
        · have hq : ((s[j].toNat : Int) == (c.toNat : Int)) = true := by rw [hx]; simp
          have Hs : Hid (splitT c s = (D ++ [(s.drop a).take (j - a)]) ++ splitT c (s.drop (j + 1))) := Lib.hid (by
            rw [HD.out, List.append_assoc]
            congr 1
            have e : s.drop a = (s.drop a).take (j - a) ++ c :: s.drop (j + 1) := by
              conv => lhs; rw [← List.take_append_drop (j - a) (s.drop a)]
              rw [List.drop_drop, show a + (j - a) = j by omega, List.drop_eq_getElem_cons hlt, hx]
            conv => lhs; rw [e]
            exact splitT_at _ Hno.out)
          have hsl : ((⟨s.toArray⟩ : ByteArray).extract a j) = ⟨((s.drop a).take (j - a)).toArray⟩ := by
            apply ByteArray.ext
            rw [ByteArray.data_extract]
            apply Array.ext'
            simp [List.extract]
          clear hx
          generalize s[j] = x at *
          generalize (s.drop a).take (j - a) = L at *
          go_wp2_with (at_builtin; refine wpList_append_src _ rfl _ _ 38 rfl w.heap.size 9 i0 _ 1 16 Tryd.underlying38 hi0 hz0 hz1 hz2 rfl (by decide) _ _ _ rfl (own_alloc HO.out) (some ⟨wr.heap.size, 0, none⟩) 1 1 [str L] rfl ?c1 ?c3 ?c4 ?c5 ?_)
          case c1 => exact src_new (size := 1) (Blk.new wr 9 #[str L]) rfl (by simp [Value.oneCell'])
          case c3 => unfold maxLen; omega
          case c4 => omega
          case c5 => simp; omega
          intro v5 w5 hown hgrow hat
          obtain ⟨o5, c5', rfl⟩ := own_slice hown
          have X5 := Lib.hid ((XE.out.alloc (.cells #[str L] 9)).grown hgrow (fun k hk => own_baseE HO.out k hk))
          have HO5 := Lib.hid hown
          clear hown hgrow hat
          go_wp2
          go_roundw
          case rel => exact ⟨D ++ [L], j + 1, j + 1, Nat.le_refl _, by go_num, by go_num, by simpa using HO5.out, X5.out, .inl ⟨by omega, Hs.out, by simp⟩⟩
          case measure => first | (simp [intOf]; done) | (simp [intOf]; omega)
        · have hq : ((s[j].toNat : Int) == (c.toNat : Int)) = false := by
            have : ¬ s[j].toNat = c.toNat := fun e => hx (UInt8.toNat_inj.1 e)
            simpa using (show ¬ (s[j].toNat : Int) = (c.toNat : Int) by omega)
          have Hn2 : Hid (c ∉ (s.drop a).take (j + 1 - a)) := Lib.hid (by
            have hl2 : j - a < (s.drop a).length := by rw [List.length_drop]; omega
            rw [show j + 1 - a = j - a + 1 by omega, List.take_succ_eq_append_getElem hl2, List.mem_append, not_or]
            refine ⟨Hno.out, ?_⟩
            rw [List.getElem_drop]
            simp only [show a + (j - a) = j by omega]
            simpa using fun e => hx e.symm)
          clear hx
          generalize s[j] = x at *
          go_wp2
          go_roundw
          case rel => exact ⟨D, a, j + 1, by omega, rfl, by go_num, HO.out, XE.out, .inl ⟨by omega, HD.out, Hn2.out⟩⟩
          case measure => first | (simp [intOf]; done) | (simp [intOf]; omega)
      · obtain rfl : j = s.length := by omega
        have Hs : Hid (splitT c s = D ++ [(s.drop a).take (s.length - a)]) := Lib.hid (by
          rw [HD.out]
          congr 1
          have hno := Hno.out
          rw [List.take_of_length_le (by rw [List.length_drop]; omega)] at hno ⊢
          exact split_free hno)
        have hsl : ((⟨s.toArray⟩ : ByteArray).extract a s.length) = ⟨((s.drop a).take (s.length - a)).toArray⟩ := by
          apply ByteArray.ext
          rw [ByteArray.data_extract]
          apply Array.ext'
          simp [List.extract]
        generalize (s.drop a).take (s.length - a) = L at *
        go_wp2_with (at_builtin; refine wpList_append_src _ rfl _ _ 38 rfl w.heap.size 9 i0 _ 1 16 Tryd.underlying38 hi0 hz0 hz1 hz2 rfl (by decide) _ _ _ rfl (own_alloc HO.out) (some ⟨wr.heap.size, 0, none⟩) 1 1 [str L] rfl ?c1 ?c3 ?c4 ?c5 ?_)
        case c1 => exact src_new (size := 1) (Blk.new wr 9 #[str L]) rfl (by simp [Value.oneCell'])
        case c3 => unfold maxLen; omega
        case c4 => omega
        case c5 => simp; omega
        intro v5 w5 hown hgrow hat
        obtain ⟨o5, c5', rfl⟩ := own_slice hown
        have X5 := Lib.hid ((XE.out.alloc (.cells #[str L] 9)).grown hgrow (fun k hk => own_baseE HO.out k hk))
        have HO5 := Lib.hid hown
        clear hown hgrow hat
        go_wp2
        go_roundw
        case rel => exact ⟨D ++ [L], s.length + 1, s.length + 1, Nat.le_refl _, by go_num, by go_num, by simpa using HO5.out, X5.out, .inr ⟨rfl, Hs.out⟩⟩
        case measure => first | (simp [intOf]; done) | (simp [intOf]; omega)
    · have hlt : decide (((s.length + 1 : Nat) : Int) ≤ (s.length : Int)) = false := by simp; omega
      have HD := Lib.hid hD
      clear hD
      go_wp2
      go_ret
      exact ⟨_, rfl, by rw [HD.out]; exact HO.out, XE.out⟩
end Go.Proofs.YtkkekbnhndfhjaaDoor
