/- Laid together from: Play6, PubW. -/
import Derived.Test.YteiknefajlocoaaLoadQuietB31
import Derived.Test.YteiknefajlocoaaLoadQuietB28
import Derived.Test.YteiknefajlocoaaLoadQuietB15
import Derived.Test.YteiknefajlocoaaLoadQuietB12

namespace Go.Proofs.Yteiknefajlocoaa
open Go.ChangeShapes Go.WideShapes Go.ChangeAt Go.RowKit
set_option linter.unusedVariables false
set_option linter.unusedSimpArgs false
theorem Qoa (n : Nat) (hn : n ≤ 1000) (w : World) : (Instr.makeSlice 31 (.int .i64 (n : Int)) (.int .i64 (n : Int))).run Try.prog w = .ok (.slice (some ⟨w.heap.size, 0, none⟩) n n) (w.alloc (.cells (madeCells #[.slice none 0 0] n) 71)) := by
 obtain ⟨i, hi, hz, hs, hb⟩ := info_parts Qcf
 have := run_make (P := Try.prog) w 31 71 i (.slice none 0 0) Try.underlying31 hi hz .i64 .i64 n n (by omega) (Int.le_refl _) (by rw [hb]; omega) (by omega)
 rw [show (Value.slice none 0 0).cells = #[.slice none 0 0] from rfl, hs, Int.toNat_natCast, Nat.mul_one] at this
 exact this
theorem made_get' (z : Array Value) (n j : Nat) (hj : j < n) : (madeCells z n)[j]? = some z[j % z.size]! := by simp [madeCells, hj]
theorem made_size' (z : Array Value) (n : Nat) : (madeCells z n).size = n := by simp [madeCells]
theorem Qoc (n : Nat) : (madeCells #[.slice none 0 0] n).toList = List.replicate n (.slice none 0 0) := by
 apply List.ext_getElem?
 intro j
 by_cases h : j < n
 ·rw [Array.getElem?_toList, made_get' _ _ _ h, List.getElem?_replicate, if_pos h]
  simp [Nat.mod_one]
 ·rw [List.getElem?_eq_none (by simp [madeCells]; omega), List.getElem?_eq_none (by simp; omega)]
theorem own_cap' {w : World} {B k n cap : Nat} {e : TypeId} {s : Nat} {xs : List Value} (h : w.ownsRow B e s (.slice (some ⟨k, 0, none⟩) n cap) n xs) : n ≤ cap ∧ cap ≤ maxLen := by
 rcases h.2 with ⟨h0, -⟩ | ⟨g, c, cur, hv, h1, h2, h3, h4, -⟩
 ·cases h0
 ·simp only [Value.slice.injEq] at hv
  obtain ⟨-, -, rfl⟩ := hv
  exact ⟨h3, h4⟩
theorem Qj6 {w : World} {B k cap N lo n : Nat} {E : TypeId} {l : List Int} (h : w.ownsRow B E 1 (.slice (some ⟨k, 0, none⟩) N cap) N (l.map (Value.int .i64))) (hl : l.length = N) (hb : lo + n ≤ N) :
  Src w 1 (some ⟨k, lo, none⟩) n (((l.drop lo).take n).map (Value.int .i64)) := by
 refine ⟨by simp only [List.length_map, List.length_take, List.length_drop]; omega, (fun e => by cases e), fun ad he j u hu => ?_, fun u hu => ?_⟩
 ·simp only [Option.some.injEq] at he
  subst he
  have hj : j < n := by
   have := (List.getElem?_eq_some_iff.1 hu).1
   simp only [List.length_map, List.length_take] at this
   omega
  have hc := h.cellAt (lo + j) (by omega)
  have e : (l.map (Value.int .i64))[lo + j]? = some u := by
   rw [← hu]
   simp only [List.getElem?_map, List.getElem?_take, List.getElem?_drop]
   rw [if_pos hj]
  rw [e] at hc
  rw [Q3n]
  exact hc
 ·simp only [List.mem_map] at hu
  obtain ⟨x, -, rfl⟩ := hu
  rfl
section
variable {wB w w' : World} {g : Nat} {vG vC : Value} {V : RV} {S : Spc}
theorem RSt.words_ (h : RSt wB w g vG vC V S) (hg : w.grownBy w' V.vW.ownBlock) {u : Value} {l : List Int} (ho : w'.ownsRow wB.heap.size 2 1 u l.length (l.map (Value.int .i64))) (hat : ∀ k, u.ownBlock = some k → V.vW.ownBlock = some k ∨ w.heap.size ≤ k) :
  RSt wB (w'.setCell ⟨g, 1, none⟩ u) g vG vC { V with vW := u } { S with pl := { S.pl with words := l } } := by
 have c := h.core
 have hr := c.fam.at_ (Q5w V S)
 have hb := h.box.grown hg (Q09 hr h.box (by decide))
 have c2 : Core wB w' { V with vW := u } { S with pl := { S.pl with words := l } } := by
  refine ⟨?_, Q22 c.out hg (fun k hk => Q1w hr c.out (by decide) k hk), fun e => ⟨Q22 (c.bout e).1 hg (fun k hk => Q1w hr (c.bout e).1 (by decide) k hk), (c.bout e).2⟩, Q22 c.sn hg (fun k hk => Q1w hr c.sn (by decide) k hk), c.scr,
   Q4q c.ext hg c.ext.size (Q3r hr)⟩
  have := c.fam.set_ (Q5w V S) hg ho hat
  rw [Qe3] at this
  exact this
 exact ⟨hb.set_ 1 u, c2.box hb h.hg 1 u, h.hg⟩
theorem RSt.pasts (h : RSt wB w g vG vC V S) (h0 : S.pl.past = []) (n : Nat) (hn : n ≤ 1000) :
  RSt wB ((w.alloc (.cells (madeCells #[.slice none 0 0] n) 71)).setCell ⟨g, 2, none⟩ (.slice (some ⟨w.heap.size, 0, none⟩) n n)) g vG vC { V with vP := .slice (some ⟨w.heap.size, 0, none⟩) n n, vs := List.replicate n (.slice none 0 0) } { S with pl := { S.pl with past := List.replicate n [] } } := by
 have hx : Ext w (w.alloc (.cells (madeCells #[.slice none 0 0] n) 71)) := (Ext.refl w).alloc _
 have h1 := h.extend hx
 have hbs := h.core.ext.size
 have hvs : V.vs = [] := by
  have := h.core.out.1
  rw [h0] at this
  simpa using this
 have hblk := Blk.new w 71 (madeCells #[.slice none 0 0] n)
 have c2 : Core wB (w.alloc (.cells (madeCells #[.slice none 0 0] n) 71)) { V with vP := .slice (some ⟨w.heap.size, 0, none⟩) n n, vs := List.replicate n (.slice none 0 0) } { S with pl := { S.pl with past := List.replicate n [] } } := by
  refine ⟨?_, ⟨by simp, .inr ⟨w.heap.size, n, madeCells #[.slice none 0 0] n, by simp, hbs, hblk, by simp, by unfold maxLen; omega, by simp [made_size'], ?_⟩⟩, fun e => ⟨(h1.core.bout e).1, fun k hk hk' => ?_⟩, h1.core.sn, h1.core.scr, h1.core.ext⟩
  ·have hf := h1.core.fam
   have key : ∀ m, Fam (w.alloc (.cells (madeCells #[.slice none 0 0] n) 71)) wB.heap.size ((List.replicate m (.slice none 0 0)).zip (List.replicate m ([] : List Int))) := by
    intro m
    rw [List.zip_replicate', ]
    refine ⟨fun x hx => ?_, List.pairwise_replicate.2 (.inr fun k hk => by simp [Value.ownBlock] at hk)⟩
    rw [List.mem_replicate] at hx
    rw [hx.2]
    exact World.ownsRow_nil _ _ _ _
   have hn1 : ∀ m, ∀ x ∈ (List.replicate m (Value.slice none 0 0)).zip (List.replicate m ([] : List Int)), x.1.ownBlock = none := fun m x hx => by
    rw [List.zip_replicate', List.mem_replicate] at hx
    rw [hx.2]
    rfl
   unfold Q31 Q29 at hf ⊢
   rw [h0, hvs] at hf
   simp only [List.zip_nil_left] at hf
   have hp := hf.apart
   simp only [List.cons_append, List.nil_append] at hf ⊢
   refine ⟨fun x hx => ?_, ?_⟩
   ·simp only [List.mem_cons, List.mem_append] at hx
    rcases hx with hx | hx | hx | hx
    ·exact hf.own x (by simp [hx])
    ·exact hf.own x (by simp [hx])
    ·exact (key n).own x hx
    ·exact hf.own x (by simp only [List.mem_cons]; exact .inr (.inr hx))
   ·have ha := hf.apart
    rw [List.pairwise_cons, List.pairwise_cons] at ha ⊢
    obtain ⟨a1, a2, a3⟩ := ha
    refine ⟨fun y hy => ?_, fun y hy => ?_, ?_⟩
    ·simp only [List.mem_cons, List.mem_append] at hy
     rcases hy with hy | hy | hy
     ·exact a1 y (by simp [hy])
     ·intro k _ hk'
      rw [hn1 n y hy] at hk'
      cases hk'
     ·exact a1 y (List.mem_cons_of_mem _ hy)
    ·rcases List.mem_append.1 hy with hy | hy
     ·intro k _ hk'
      rw [hn1 n y hy] at hk'
      cases hk'
     ·exact a2 y hy
    ·rw [List.pairwise_append]
     refine ⟨(key n).apart, a3, fun x hx y hy k hk => ?_⟩
     rw [hn1 n x hx] at hk
     cases hk
  ·rw [Nat.mul_one, List.take_of_length_le (by simp [madeCells]), Qoc]
  ·have h2 := (h.core.bout e).1.lt k hk'
   have h3 : w.heap.size = k := by simpa [Value.ownBlock] using hk
   omega
 exact ⟨h1.box.set_ 2 _, c2.box h1.box h.hg 2 _, h.hg⟩
end
def Q5q (w : World) (g fuel : Nat) : Nat :=
 2 * (fuel - (match w.cell? ⟨g, 8, none⟩ with | some (.int _ n) => n.toNat | _ => 0)) + (match w.cell? ⟨g, 12, none⟩ with | some (.bool true) => 1 | _ => 0)
theorem Q7s {wB w : World} {g : Nat} {vG vC : Value} {V : RV} {S : Spc} (h : RSt wB w g vG vC V S) (fuel : Nat) : Q5q w g fuel = 2 * (fuel - S.steps) + bN S.ahead := by
 have g8 : w.cell? ⟨g, 8, none⟩ = some (.int .i64 (S.steps : Int)) := by rw [h.box.cell]; rfl
 have g12 : w.cell? ⟨g, 12, none⟩ = some (.bool S.ahead) := by rw [h.box.cell]; rfl
 unfold Q5q
 rw [g8, g12]
 cases S.ahead <;> simp [bN]
def Qkn (vG vC : Value) (V : RV) (S : Spc) (vM : Value) : List Value :=
 [V.vR, V.vW, V.vP, .int .i64 S.pl.at_, vG, vC, .int .i64 S.fin, .int .i64 S.value, .int .i64 S.steps, V.vS, vM, V.vX, .bool S.ahead, .int .i64 S.since, V.bR, V.bW, V.bP, .int .i64 S.back.at_]
structure DSt (wB w : World) (g : Nat) (vG vC : Value) (V : RV) (S : Spc) (vM : Value) (ms : List (List Int)) (us : List Value) : Prop where
 box : Blk w g 117 (Qkn vG vC V S vM).toArray
 ws : w.ownsRow wB.heap.size 2 1 V.vW S.pl.words.length (S.pl.words.map (Value.int .i64))
 sn : w.ownsRow wB.heap.size 98 3 V.vS S.seen.length (S.seen.flatMap Q4z)
 mem : w.ownsRow wB.heap.size 71 1 vM ms.length us
 rows : ∀ j, j < ms.length → w.ownsRow wB.heap.size 2 1 (us.getD j undef) (ms.getD j default).length ((ms.getD j default).map (Value.int .i64))
 ext : Ext wB w
 hg : wB.heap.size ≤ g
section
variable {wB w w' : World} {g : Nat} {vG vC vM : Value} {V : RV} {S : Spc} {ms : List (List Int)} {us : List Value}
theorem DSt.extend (h : DSt wB w g vG vC V S vM ms us) (hx : Ext w w') : DSt wB w' g vG vC V S vM ms us :=
 ⟨h.box.ext hx, Q34 h.ws hx, Q34 h.sn hx, Q34 h.mem hx, fun j hj => Q34 (h.rows j hj) hx, h.ext.trans hx, h.hg⟩
theorem DSt.push (h : DSt wB w g vG vC V S vM ms us) {w1 : World} (hx : Ext w w1) {x u : Value} {l : List Int} (ho : w1.ownsRow wB.heap.size 2 1 x l.length (l.map (Value.int .i64))) (hg : w1.grownBy w' vM.ownBlock)
  (hO : w'.ownsRow wB.heap.size 71 1 u (ms.length + 1) (us ++ [x])) : DSt wB (w'.setCell ⟨g, 10, none⟩ u) g vG vC V S u (ms ++ [l]) (us ++ [x]) := by
 have h1 := h.extend hx
 have hul : us.length = ms.length := by have := h.mem.1; omega
 have hb := h1.box.grown hg (Q09 h1.mem h1.box (by decide))
 have hws := Q22 h1.ws hg (fun k hk => Q1w h1.mem h1.ws (by decide) k hk)
 have hsn := Q22 h1.sn hg (fun k hk => Q1w h1.mem h1.sn (by decide) k hk)
 have hx2 := Q22 ho hg (fun k hk => Q1w h1.mem ho (by decide) k hk)
 refine ⟨hb.set_ 10 u, Q1e (p := ⟨g, 10, none⟩) hws (Q09 hws hb (by decide)) u, Q1e (p := ⟨g, 10, none⟩) hsn (Q09 hsn hb (by decide)) u, ?_, fun j hj => ?_, (Q4q h1.ext hg h1.ext.size (Q3r h1.mem)).setCell h.hg u, h.hg⟩
 ·rw [List.length_append]
  exact Q1e (p := ⟨g, 10, none⟩) hO (Q09 hO hb (by decide)) u
 ·rw [List.length_append, List.length_singleton] at hj
  by_cases e : j < ms.length
  ·have e1 : (us ++ [x]).getD j undef = us.getD j undef := by simp [List.getD_eq_getElem?_getD, List.getElem?_append_left (show j < us.length by omega)]
   have e2 : (ms ++ [l]).getD j default = ms.getD j default := by simp [List.getD_eq_getElem?_getD, List.getElem?_append_left e]
   have h2 := h1.rows j e
   have h3 := Q22 h2 hg (fun k hk => Q1w h1.mem h2 (by decide) k hk)
   rw [e1, e2]
   exact Q1e (p := ⟨g, 10, none⟩) h3 (Q09 h3 hb (by decide)) u
  ·obtain rfl : j = ms.length := by omega
   have e1 : (us ++ [x]).getD ms.length undef = x := by rw [← hul]; simp
   have e2 : (ms ++ [l]).getD ms.length default = l := by simp
   rw [e1, e2]
   exact Q1e (p := ⟨g, 10, none⟩) hx2 (Q09 hx2 hb (by decide)) u
end
theorem RSt.done {wB w : World} {g : Nat} {vG vC : Value} {V : RV} {S : Spc} (h : RSt wB w g vG vC V S) (ha : S.ahead = false) : DSt wB w g vG vC V (endS S) (.slice none 0 0) [] [] := by
 have e : endS S = S := by unfold endS; rw [if_neg (by rw [ha]; simp)]
 rw [e]
 exact ⟨h.box, h.core.fam.at_ (Q5w V S), h.core.sn, World.ownsRow_nil _ _ _ _, fun j hj => by simp at hj, h.core.ext, h.hg⟩
set_option maxHeartbeats 2000000 in
theorem RSt.doneBack {wB w : World} {g : Nat} {vG vC : Value} {V : RV} {S : Spc} (h : RSt wB w g vG vC V S) (ha : S.ahead = true) :
  DSt wB ((((w.setCell ⟨g, 0, none⟩ V.bR).setCell ⟨g, 1, none⟩ V.bW).setCell ⟨g, 2, none⟩ V.bP).setCell ⟨g, 3, none⟩ (.int .i64 S.back.at_)) g vG vC { V with vR := V.bR, vW := V.bW, vP := V.bP } (endS S) (.slice none 0 0) [] [] := by
 have e : endS S = { S with pl := S.back } := by unfold endS; rw [if_pos ha]
 rw [e]
 have b1 := h.box.set_ 0 V.bR
 have b2 := b1.set_ 1 V.bW
 have b3 := b2.set_ 2 V.bP
 have b4 := b3.set_ 3 (.int .i64 S.back.at_)
 have hf : Fam w wB.heap.size (Q29 V.bR V.bW V.bs S.back) := by
  refine h.core.fam.sub ?_
  unfold Q31
  rw [if_pos ha]
  exact List.sublist_append_right _ _
 have far : ∀ {e : TypeId} {s n : Nat} {v : Value} {xs : List Value}, w.ownsRow wB.heap.size e s v n xs → e ≠ 117 → ((((w.setCell ⟨g, 0, none⟩ V.bR).setCell ⟨g, 1, none⟩ V.bW).setCell ⟨g, 2, none⟩ V.bP).setCell ⟨g, 3, none⟩ (.int .i64 S.back.at_)).ownsRow wB.heap.size e s v n xs := fun ho hne => by
  have hn := Q09 ho h.box hne
  exact Q1e (p := ⟨g, 3, none⟩) (Q1e (p := ⟨g, 2, none⟩) (Q1e (p := ⟨g, 1, none⟩) (Q1e (p := ⟨g, 0, none⟩) ho hn _) hn _) hn _) hn _
 exact ⟨b4, far (hf.at_ (i := 1) rfl) (by decide), far h.core.sn (by decide), World.ownsRow_nil _ _ _ _, fun j hj => by simp at hj, (((h.core.ext.setCell (p := ⟨g, 0, none⟩) h.hg _).setCell (p := ⟨g, 1, none⟩) h.hg _).setCell (p := ⟨g, 2, none⟩) h.hg _).setCell (p := ⟨g, 3, none⟩) h.hg _, h.hg⟩
def Q6b (l : List Int) : Bool := decide (l.length ≤ 2000) && l.all fun x => decide (0 ≤ x)
set_option maxHeartbeats 2000000 in
theorem Qls (l : List Int) (v : Value) (w : World) (h : Q49 w v l) :
  Calls Try.prog 40 #[v] w fun e w' => e = .returned (.bool (Q6b l)) ∧ Ext w w' := by
 obtain ⟨h64, oa, cap, b, o, rfl, hc1, hc2, hrow⟩ := h
 have hix := Q7w (cap := cap) hrow.at_
 have Hrow := Lib.hid hrow
 clear hrow h64
 by_cases hl : 2000 < l.length
 ·have Ho : Hid (Q6b l = false) := Lib.hid (by unfold Q6b; simp; omega)
  have hd : decide ((2000 : Int) < (l.length : Int)) = true := by simp; omega
  go_enter Try.func40, Try.ntmps40
  go_wp2
  go_ret
  rw [Ho.out]
  exact ⟨rfl, Ext.refl _⟩
 have hd : decide ((2000 : Int) < (l.length : Int)) = false := by simp; omega
 go_enter Try.func40, Try.ntmps40
 go_wp2_with fail
 go_loopw [3] (fun i wr => ∃ j : Nat, j ≤ l.length ∧ i = .int .i64 j ∧ (∀ k, k < j → 0 ≤ l.getD k default) ∧ Ext w wr) (fun i _ => l.length - (intOf i).toNat)
 case atStart => exact ⟨0, by omega, rfl, fun k hk => by omega, Ext.refl _⟩
 case round =>
  obtain ⟨j, hj, rfl, hall, hE⟩ := hrel
  have Hall := Lib.hid hall
  have X := Lib.hid hE
  clear hall
  by_cases hlt : j < l.length
  ·have e0 := (Hrow.out.ext hE).one j hlt
   have hbl := Q0a e0
   simp only at hbl
   clear hE
   by_cases hn : l.getD j default < 0
   ·have Ho : Hid (Q6b l = false) := Lib.hid (by
     unfold Q6b
     rw [Bool.and_eq_false_iff]
     right
     rw [Bool.eq_false_iff]
     intro h
     have := List.all_eq_true.1 h _ (Q20 hlt)
     simp only [decide_eq_true_eq] at this
     omega)
    have hd2 : decide (l.getD j default < 0) = true := by simpa using hn
    generalize l.getD j default = x at *
    go_wp2
    go_ret
    rw [Ho.out]
    exact ⟨rfl, X.out⟩
   ·have hd2 : decide (l.getD j default < 0) = false := by simpa using hn
    have Hn : Hid (0 ≤ l.getD j default) := Lib.hid (by omega)
    generalize hx : l.getD j default = x at *
    have Hx := Lib.hid hx
    clear hn hx
    go_wp2
    go_roundw
    case rel => exact ⟨j + 1, by omega, by go_num, fun k hk => by
     rcases Nat.lt_or_ge k j with h | h
     ·exact Hall.out k h
     ·obtain rfl : k = j := by omega
      rw [Hx.out]; exact Hn.out, X.out⟩
    case measure => first | (simp [intOf]; done) | (simp [intOf]; omega)
  ·have hje : j = l.length := by omega
   subst hje
   have Ho : Hid (Q6b l = true) := Lib.hid (by
    unfold Q6b
    simp only [Bool.and_eq_true, decide_eq_true_eq, List.all_eq_true]
    refine ⟨by omega, fun x hx => ?_⟩
    obtain ⟨k, hk, rfl⟩ := List.getElem_of_mem hx
    have := Hall.out k hk
    simpa [hk] using this)
   have hlt2 : decide ((l.length : Int) < (l.length : Int)) = false := by simp
   go_wp2
   go_ret
   rw [Ho.out]
   exact ⟨rfl, X.out⟩
theorem Qkx {l r : List Int} (hl : l.length = r.length) (h : ∀ x, x < l.length → l.getD x default = r.getD x default) : l = r := by
 apply List.ext_getElem hl
 intro x h1 h2
 have := h x h1
 simpa [h1, h2] using this
theorem Qi3 {l : List LReg} (h : Q02 l = true) : ∀ j, j < l.length → Q0b (l.getD j default) ≤ 64 := fun j hj => by
 exact Q5k _ (Q55 h _ (by simp [hj])).2
theorem Qmr {p : Q01} {m n : List (List Int)} {j : Nat} (hj : j < p.regs.length) (hs : (p.regs.getD j default).secret = false) (h : m.getD j default ≠ n.getD j default) : Q50 p m n = false := by
 cases hq : Q50 p m n
 ·rfl
 ·unfold Q50 at hq
  have := List.all_eq_true.1 hq j (by simpa using hj)
  rw [hs, Bool.false_or, decide_eq_true_eq] at this
  exact absurd this h
theorem Qmq {p : Q01} {m n : List (List Int)} (h : ∀ r, r < p.regs.length → (p.regs.getD r default).secret = false → m.getD r default = n.getD r default) : Q50 p m n = true := by
 unfold Q50
 simp only [List.all_eq_true, List.mem_range, Bool.or_eq_true, decide_eq_true_eq]
 intro r hr
 cases hs : (p.regs.getD r default).secret
 ·exact .inr (h r hr hs)
 ·exact .inl rfl
set_option maxRecDepth 100000 in
set_option maxHeartbeats 4000000 in
theorem Qes (p : Q01) (m n : List (List Int)) {oa : Option Addr} {capa : Nat} {vC vm vn : Value} (w : World) (hp : Q67 w (.slice oa p.regs.length capa) p.regs) (hm : Q4v w vm m) (hn : Q4v w vn n) (fm : Q2g p m = true) (fn : Q2g p n = true) :
  Calls Try.prog 29 #[.agg #[.slice oa p.regs.length capa, vC], vm, vn] w fun e w' => e = .returned (.bool (Q50 p m n)) ∧ Ext w w' := by
 obtain ⟨hml, hmr⟩ := Q7y fm
 obtain ⟨hnl, hnr⟩ := Q7y fn
 have hrl : p.regs.length ≤ 6 := Q2x (by unfold Q2g at fm; simp only [Bool.and_eq_true] at fm; exact fm.1.1)
 obtain ⟨-, oa', capa', br, orr, hv3, hd1, hd2, hrow2⟩ := hp
 simp only [Value.slice.injEq, true_and] at hv3
 obtain ⟨rfl, rfl⟩ := hv3
 have hixr := Q2k (cap := capa) hrow2.at_
 obtain ⟨ob, capb, b, o, rfl, hc1, hc2, vs, hrow, hin⟩ := hm
 obtain ⟨oc, capc, b2, o2, rfl, hc3, hc4, us, hrow3, hin3⟩ := hn
 rw [hml] at hc1 hrow
 rw [hnl] at hc3 hrow3
 have hixm := index_mem' (cap := capb) hrow.at_
 have hixn := index_mem' (cap := capc) hrow3.at_
 have HR := Lib.hid hrow2
 have HM := Lib.hid hrow
 have HN := Lib.hid hrow3
 have HI := Lib.hid hin
 have HJ := Lib.hid hin3
 have HMR := Lib.hid hmr
 have HNR := Lib.hid hnr
 have HML := Lib.hid hml
 have HNL := Lib.hid hnl
 have HW64 : Hid (∀ j, j < p.regs.length → Q0b (p.regs.getD j default) ≤ 64) := Lib.hid (Qi3 (by unfold Q2g at fm; simp only [Bool.and_eq_true] at fm; exact fm.1.1))
 rw [hml, hnl]
 clear hrow2 hrow hrow3 hin hin3 hmr hnr fm fn hd1 hd2 hc1 hc2 hc3 hc4 hml hnl
 go_enter Try.func29, Try.ntmps29
 go_upto_region 1 with fail
 obtain ⟨W, gp, hg, hW, hx, bP⟩ := Q14 w #[.slice oa p.regs.length capa, vC] 25
 rw [hW, hg]
 have X := Lib.hid hx
 have p0 : W.cell? ⟨gp, 0, none⟩ = some (.slice oa p.regs.length capa) := by rw [bP.cell]; rfl
 clear hW hg hx bP
 go_wp2_with fail
 go_loopw [7] (fun i wr => ∃ j : Nat, j ≤ p.regs.length ∧ i = .int .i64 (j : Int) ∧ (∀ r, r < j → (p.regs.getD r default).secret = false → m.getD r default = n.getD r default) ∧ Ext W wr) (fun i _ => p.regs.length - (intOf i).toNat)
 case atStart => exact ⟨0, by omega, rfl, fun r hr => by omega, Ext.refl _⟩
 case round =>
  obtain ⟨j, hj, rfl, hs, hE⟩ := hrel
  have XE := Lib.hid hE
  have HS := Lib.hid hs
  have p0 := hE.kept p0
  clear hE hs
  by_cases hlt : j < p.regs.length
  ·obtain ⟨-, e1⟩ := (HR.out.ext (X.out.trans XE.out)).reg j hlt
   cases hsec : (p.regs.getD j default).secret
   ·rw [hsec] at e1
    have f0 := (HM.out.ext (X.out.trans XE.out)).one j hlt
    have f1 := (HN.out.ext (X.out.trans XE.out)).one j hlt
    have g0 := (HI.out j (by rw [HML.out]; exact hlt)).ext (X.out.trans XE.out)
    have g1 := (HJ.out j (by rw [HNL.out]; exact hlt)).ext (X.out.trans XE.out)
    have hq1 := HMR.out j hlt
    have hq2 := HNR.out j hlt
    have Hsec := Lib.hid hsec
    have Hno : Hid (m.getD j default ≠ n.getD j default → Q50 p m n = false) := Lib.hid fun h => Qmr hlt hsec h
    have Hyes : Hid (m.getD j default = n.getD j default → ∀ r, r < j + 1 → (p.regs.getD r default).secret = false → m.getD r default = n.getD r default) := Lib.hid fun h r hr hrs => by
     by_cases hrj : r = j
     ·rw [hrj]; exact h
     ·exact HS.out r (by omega) hrs
    generalize m.getD j default = l at *
    generalize n.getD j default = r at *
    generalize vs j = vl at *
    generalize us j = vr at *
    obtain ⟨-, od, capd, b3, o3, rfl, -, -, r3⟩ := g0
    obtain ⟨-, oe, cape, b4, o4, rfl, -, -, r4⟩ := g1
    have hlr : r.length = l.length := by rw [hq1, hq2]
    have hw64 := HW64.out j hlt
    rw [← hq1] at hw64
    rw [hlr] at f1 r4
    have hiy := Qcl (cap := capd) r3.at_
    have hiy2 := Qcl (cap := cape) r4.at_
    have R3 := Lib.hid r3
    have R4 := Lib.hid r4
    have Hlr := Lib.hid hlr
    clear r3 r4 hq1 hq2 hsec hlr
    go_wp2_with fail
    obtain ⟨w1, hw1⟩ : ∃ w1, w1 = wr := ⟨_, rfl⟩
    subst hw1
    go_loopw [8] (fun i wr => ∃ k : Nat, k ≤ l.length ∧ i = .int .i64 (k : Int) ∧ (∀ x, x < k → l.getD x default = r.getD x default) ∧ Ext w1 wr) (fun i _ => l.length - (intOf i).toNat)
    case atStart => exact ⟨0, by omega, rfl, fun x hx => by omega, Ext.refl _⟩
    case round =>
     obtain ⟨k, hk, rfl, hs, hE⟩ := hrel
     have XK := Lib.hid hE
     have HK := Lib.hid hs
     have f0 := hE.kept f0
     have f1 := hE.kept f1
     have p0 := hE.kept p0
     clear hE hs e1
     by_cases hkk : k < l.length
     ·have x0 := (R3.out.ext XK.out).one k hkk
      have y0 := (R4.out.ext XK.out).one k hkk
      have Hn : Hid (l.getD k default = r.getD k default → ∀ x, x < k + 1 → l.getD x default = r.getD x default) := Lib.hid fun h x hx => by
       by_cases hxk : x = k
       ·rw [hxk]; exact h
       ·exact HK.out x (by omega)
      have Hd : Hid (l.getD k default ≠ r.getD k default → Q50 p m n = false) := Lib.hid fun h => Hno.out fun e => h (by rw [e])
      generalize l.getD k default = x at *
      generalize r.getD k default = y at *
      have k0 : ∀ W, Ext wr W → W.cell? ⟨b, o + j, none⟩ = some (.slice od l.length capd) := fun _ h => h.kept f0
      have k1 : ∀ W, Ext wr W → W.cell? ⟨b2, o2 + j, none⟩ = some (.slice oe l.length cape) := fun _ h => h.kept f1
      have k2 : ∀ W, Ext wr W → W.cell? ⟨b3, o3 + k, none⟩ = some (.int .i64 x) := fun _ h => h.kept x0
      have k3 : ∀ W, Ext wr W → W.cell? ⟨b4, o4 + k, none⟩ = some (.int .i64 y) := fun _ h => h.kept y0
      clear x0 y0
      by_cases hxy : x = y
      ·have hq : (x != y) = false := by simp [hxy]
       have Hn := Lib.hid (Hn.out hxy)
       clear hxy
       go_upto_region 8 with fail
       refine Q0z 15 (by kernel_rfl) (by kernel_rfl) ?_
       simp only [List.take_succ_cons, List.take_zero, List.drop_succ_cons, List.drop_zero]
       repeat (first | (refine Q0r ?_ ?_ (fun wc hE => ?_) ?_; (decide); rfl; (focus (go_simp; done)); go_simp) | (refine Q0l ?_ ?_ ?_; (decide); (first | rfl | (focus (go_simp; done))); apply Exists.intro; refine ⟨fun wc hE => ?_, ?_⟩; (go_simp; exact rfl); go_simp) | (refine Q0s ?_ ?_ ?_; (decide); (first | rfl | (focus (go_simp; done))); apply Exists.intro; refine ⟨fun wc hE => ?_, ?_⟩; (go_simp; (first | fail)); go_simp) | (refine Q0p ?_ ?_ ?_; (decide); (focus (go_simp; done)); go_simp))
       refine Q0q ?_
       intro wy hy
       have XK := Lib.hid (XK.out.trans hy)
       clear hy k0 k1 k2 k3
       go_wp2
       go_roundw
       case rel => exact ⟨k + 1, by omega, by go_num, Hn.out, XK.out⟩
       case measure => first | (simp [intOf]; done) | (simp [intOf]; omega)
      ·have hq : (x != y) = true := by simp [hxy]
       have Hd := Lib.hid (Hd.out hxy)
       clear hxy
       go_upto_region 8 with fail
       refine Q0z 15 (by kernel_rfl) (by kernel_rfl) ?_
       simp only [List.take_succ_cons, List.take_zero, List.drop_succ_cons, List.drop_zero]
       repeat (first | (refine Q0r ?_ ?_ (fun wc hE => ?_) ?_; (decide); rfl; (focus (go_simp; done)); go_simp) | (refine Q0l ?_ ?_ ?_; (decide); (first | rfl | (focus (go_simp; done))); apply Exists.intro; refine ⟨fun wc hE => ?_, ?_⟩; (go_simp; exact rfl); go_simp) | (refine Q0s ?_ ?_ ?_; (decide); (first | rfl | (focus (go_simp; done))); apply Exists.intro; refine ⟨fun wc hE => ?_, ?_⟩; (go_simp; (first | fail)); go_simp) | (refine Q0p ?_ ?_ ?_; (decide); (focus (go_simp; done)); go_simp))
       refine Q0q ?_
       intro wy hy
       have XK := Lib.hid (XK.out.trans hy)
       clear hy k0 k1 k2 k3
       go_wp2
       go_ret
       rw [Hd.out]
       exact ⟨rfl, X.out.trans (XE.out.trans XK.out)⟩
     ·have hje : k = l.length := by omega
      subst hje
      have hlt2 : decide ((l.length : Int) < (l.length : Int)) = false := by simp
      have Hy := Lib.hid (Hyes.out (Qkx Hlr.out.symm HK.out))
      go_wp2
      go_roundw
      case rel => exact ⟨j + 1, by omega, by go_num, Hy.out, XE.out.trans XK.out⟩
      case measure => first | (simp [intOf]; done) | (simp [intOf]; omega)
   ·rw [hsec] at e1
    have Hy : Hid (∀ r, r < j + 1 → (p.regs.getD r default).secret = false → m.getD r default = n.getD r default) := Lib.hid fun r hr hrs => by
     by_cases hrj : r = j
     ·rw [hrj, hsec] at hrs; cases hrs
     ·exact HS.out r (by omega) hrs
    clear hsec
    go_wp2
    go_roundw
    case rel => exact ⟨j + 1, by omega, by go_num, Hy.out, XE.out⟩
    case measure => first | (simp [intOf]; done) | (simp [intOf]; omega)
  ·have hje : j = p.regs.length := by omega
   subst hje
   have hlt2 : decide ((p.regs.length : Int) < (p.regs.length : Int)) = false := by simp
   have Hy := Lib.hid (Qmq HS.out)
   go_wp2
   go_ret
   rw [Hy.out]
   exact ⟨rfl, X.out.trans XE.out⟩
set_option maxRecDepth 100000 in
set_option maxHeartbeats 4000000 in
theorem Qmo (p : Q01) (m n : List (List Int)) (fin value : Int) (steps : Nat) (seen : List LSee) (vP u v : Value) (w : World) (hp : Q07 w vP p) (hu : Q66 w u fin value steps seen m) (hv : Q66 w v fin value steps seen n) (fm : Q2g p m = true) (fn : Q2g p n = true) (hpub : Q50 p m n = true) :
  Calls Try.prog 30 #[vP, u, v] w fun e w' => e = .returned (.bool true) ∧ Ext w w' := by
 obtain ⟨v1, v2, rfl, hR, hC⟩ := hp
 have HR := Lib.hid hR
 obtain ⟨-, oa, capa, br, orr, rfl, -, -, -⟩ := hR
 obtain ⟨-, oc, capc, bc, oo, rfl, -, -, -⟩ := hC
 obtain ⟨s1, m1, rfl, hs1, hm1⟩ := hu
 obtain ⟨s2, m2, rfl, hs2, hm2⟩ := hv
 have HS1 := Lib.hid hs1
 have HS2 := Lib.hid hs2
 have HM1 := Lib.hid hm1
 have HM2 := Lib.hid hm2
 have Fm := Lib.hid fm
 have Fn := Lib.hid fn
 have Hpub := Lib.hid hpub
 obtain ⟨o1, c1, b1, q1, rfl, -⟩ := hs1
 obtain ⟨o2, c2, b2, q2, rfl, -⟩ := hs2
 obtain ⟨o3, c3, b3, q3, rfl, -⟩ := hm1
 obtain ⟨o4, c4, b4, q4, rfl, -⟩ := hm2
 clear fm fn hpub
 go_enter Try.func30, Try.ntmps30
 go_upto_region 1 with fail
 obtain ⟨W, g, hg, hW, hx, bP, bX, bY⟩ := Q83 w #[.slice oa p.regs.length capa, .slice oc p.code.length capc] #[.int .i64 fin, .int .i64 value, .int .i64 steps, .slice o1 seen.length c1, .slice o3 m.length c3] #[.int .i64 fin, .int .i64 value, .int .i64 steps, .slice o2 seen.length c2, .slice o4 n.length c4] 25 36 36
 rw [hW, hg]
 have X := Lib.hid hx
 have BP := Lib.hid bP
 have BX := Lib.hid bX
 have BY := Lib.hid bY
 have x3 : W.cell? ⟨g + 1, 3, none⟩ = some (.slice o1 seen.length c1) := by rw [bX.cell]; rfl
 have y3 : W.cell? ⟨g + 1 + 1, 3, none⟩ = some (.slice o2 seen.length c2) := by rw [bY.cell]; rfl
 clear hW hg hx bP bX bY
 go_wp2_with fail
 have C := Qlr seen _ _ W (HS1.out.ext X.out) (HS2.out.ext X.out)
 (with_reducible refine C.mono ?_)
 clear C
 rintro e w1 ⟨rfl, hx⟩
 have X := Lib.hid (X.out.trans hx)
 have bP := BP.out.ext hx
 have bX := BX.out.ext hx
 have bY := BY.out.ext hx
 have p0 : w1.cell? ⟨g, 0, none⟩ = some (.slice oa p.regs.length capa) := by rw [bP.cell]; rfl
 have p1 : w1.cell? ⟨g, 1, none⟩ = some (.slice oc p.code.length capc) := by rw [bP.cell]; rfl
 have x0 : w1.cell? ⟨g + 1, 0, none⟩ = some (.int .i64 fin) := by rw [bX.cell]; rfl
 have x1 : w1.cell? ⟨g + 1, 1, none⟩ = some (.int .i64 value) := by rw [bX.cell]; rfl
 have x2 : w1.cell? ⟨g + 1, 2, none⟩ = some (.int .i64 steps) := by rw [bX.cell]; rfl
 have x4 : w1.cell? ⟨g + 1, 4, none⟩ = some (.slice o3 m.length c3) := by rw [bX.cell]; rfl
 have y0 : w1.cell? ⟨g + 1 + 1, 0, none⟩ = some (.int .i64 fin) := by rw [bY.cell]; rfl
 have y1 : w1.cell? ⟨g + 1 + 1, 1, none⟩ = some (.int .i64 value) := by rw [bY.cell]; rfl
 have y2 : w1.cell? ⟨g + 1 + 1, 2, none⟩ = some (.int .i64 steps) := by rw [bY.cell]; rfl
 have y4 : w1.cell? ⟨g + 1 + 1, 4, none⟩ = some (.slice o4 n.length c4) := by rw [bY.cell]; rfl
 have hq1 : (fin == fin) = true := by simp
 have hq2 : (value == value) = true := by simp
 have hq3 : ((steps : Int) == (steps : Int)) = true := by simp
 clear hx bP bX bY x3 y3
 go_wp2_with fail
 have C := Qes p m n (vC := .slice oc p.code.length capc) w1 (HR.out.ext X.out) (HM1.out.ext X.out) (HM2.out.ext X.out) Fm.out Fn.out
 rw [Hpub.out] at C
 (with_reducible refine C.mono ?_)
 clear C
 rintro e w2 ⟨rfl, hx⟩
 have X := Lib.hid (X.out.trans hx)
 clear hx
 go_wp2
 go_ret
 exact ⟨rfl, X.out⟩
end Go.Proofs.Yteiknefajlocoaa
